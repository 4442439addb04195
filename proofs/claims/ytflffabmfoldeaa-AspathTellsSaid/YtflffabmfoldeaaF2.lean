/-
  Printed by gen.py: the formula of each function, and that it holds of the function.
-/
import Derived.Test.YtflffabmfoldeaaTy
namespace Go.Proofs.Ytflffabmfoldeaa
set_option linter.unusedVariables false
set_option linter.unusedSimpArgs false
open Go.Sp
set_option linter.unusedVariables false
/-- The formula of signpost.aspath.Count. -/
def F13 (p0 : SV) (K : Int → World → Prop) (w0 : World) : Prop :=
M.loop2 (fun (J3 : Int → Int → World → Prop) (x1 : Int) (x2 : Int) (w4 : World) => 
M.ite (decide (x2 < (p0.len : Int))) (
M.idx p0 x2 2 fun a16 =>
M.ld (Value.int .i64) (a16.add (x2.toNat * 2)) w4 fun t20 =>
M.ld SV.v ((a16.add (x2.toNat * 2)).add 1) w4 fun t22 =>
M.new (.cells #[(Value.int .i64 (0 : Int)), (SV.v SV.nil)] 27) w4 fun b25 w24 =>
M.stA b25 [(Value.int .i64 t20), (SV.v t22)] w24 fun w26 =>
M.ld (Value.int .i64) b25 w26 fun t28 =>
M.join (fun (x31 : Int) (w37 : World) => 
J3 x31 (IntKind.i64.wrap (x2 + (1 : Int))) w37) fun J30 => 
M.ite (t28 == (2 : Int)) (
M.ld SV.v (b25.add 1) w26 fun t33 =>
J30 (IntKind.i64.wrap (x1 + (t33.len : Int))) w26) (
M.ite (t28 == (1 : Int)) (
J30 (IntKind.i64.wrap (x1 + (1 : Int))) w26) (
J30 x1 w26))) (
K x1 w4)) (0 : Int) (0 : Int) w0
theorem F13_ok {w0 : World} {p0 : SV} {K : Int → World → Prop} (h : F13 p0 K w0) : Calls Try.prog 13 #[(SV.v p0)] w0 (R13 K) := by
  refine calls_of_WE (args := [(SV.v p0)]) (rs := [.tmp 2]) Try.func13 rfl (N := 27) rfl rfl rfl rfl ?_
  refine WE.seq ?_
  refine WE.reg ?_
  refine LE.p (v := (Value.int .i64 (0 : Int))) (Wn.no rfl) rfl (R.assign rfl) ?_
  refine LE.nil ?_
  refine WE.seq ?_
  refine WE.reg ?_
  refine LE.p (v := (Value.int .i64 (0 : Int))) (Wn.no rfl) rfl (R.assign rfl) ?_
  refine LE.nil ?_
  refine WE.seq ?_
  refine WE.seq ?_
  refine WE.reg ?_
  refine LE.p (v := (SV.v p0)) (Wn.no rfl) rfl (R.move rfl) ?_
  refine LE.p (v := (Value.int .i64 (p0.len : Int))) (Wn.no rfl) rfl (R.len sl24 rfl) ?_
  refine LE.p (v := (Value.int .i64 (0 : Int))) (Wn.no rfl) rfl (R.move rfl) ?_
  refine LE.nil ?_
  refine WE.block ?_
  obtain ⟨I7, ⟨n6, h⟩, hr8⟩ := h
  refine WE.loop (fun n e w => ∃ (x1 : Int) (x2 : Int), I7 n x1 x2 w ∧ e 3 = (Value.int .i64 x1) ∧ e 6 = (SV.v p0) ∧ e 7 = (Value.int .i64 (p0.len : Int)) ∧ e 8 = (Value.int .i64 x2)) n6 ⟨_, _, h, rfl, rfl, rfl, rfl⟩ ?_
  clear h
  rintro n6 e5 w4 ⟨x1, x2, h, f11, f12, f13, f14⟩
  replace h := hr8 n6 x1 x2 w4 h
  refine WE.seq ?_
  refine WE.reg ?_
  refine LE.p (v := (Value.bool (decide (x2 < (p0.len : Int))))) (Wn.no rfl) rfl (R.lss f14 f13) ?_
  refine LE.nil ?_
  refine WE.seq ?_
  refine WE.condT rfl (b := (decide (x2 < (p0.len : Int)))) rfl ?_ ?_
  · intro hb15
    replace h := M.ite_t h hb15
    refine WE.skip ?_
    refine WE.seq ?_
    refine WE.block ?_
    refine WE.seq ?_
    refine WE.reg ?_
    obtain ⟨a16, h17, h18, h19, h⟩ := h
    refine LE.p (v := (Value.pointer (some (a16.add (x2.toNat * 2))))) (Wn.no rfl) rfl (R.idx (s := p0) sl24 f12 f14 h17 h18 h19) ?_
    obtain ⟨t20, h21, h⟩ := h
    obtain ⟨t22, h23, h⟩ := h
    refine LE.r (v := (Value.agg #[(Value.int .i64 t20), (SV.v t22)])) (Wn.no rfl) rfl (R.ldA ag27 sz27 rfl rfl (Cs.cons h21 (Cs.cons h23 Cs.nil))) ?_
    obtain ⟨b25, hpb25, w24, hww24, h⟩ := M.new_use h
    refine LE.r (v := (Value.pointer (some b25))) (Wn.no rfl) rfl (R.alloc (cs := #[(Value.int .i64 (0 : Int)), (SV.v SV.nil)]) ze27 rfl hpb25 hww24) ?_
    obtain ⟨w26, hww26, h27, h⟩ := M.stA_use h
    refine LE.s (Wn.no rfl) rfl (R.stA (a := b25) [(Value.int .i64 t20), (SV.v t22)] sz27 rfl rfl rfl (by simp [Value.oneCell']) h27 hww26) ?_
    refine LE.nil ?_
    refine WE.seq ?_
    refine WE.reg ?_
    refine LE.p (v := (Value.pointer (some b25))) (Wn.no rfl) rfl (R.fld (off := 0) fa27_0 rfl) ?_
    obtain ⟨t28, h29, h⟩ := h
    refine LE.r (v := (Value.int .i64 t28)) (Wn.no rfl) rfl (R.ld sc3 rfl h29) ?_
    refine LE.nil ?_
    obtain ⟨J30, hJ30, h⟩ := M.join_use h
    refine WE.blkJ (fun e w => ∃ (x31 : Int), J30 x31 w ∧ e 3 = (Value.int .i64 x31) ∧ e 6 = (SV.v p0) ∧ e 7 = (Value.int .i64 (p0.len : Int)) ∧ e 8 = (Value.int .i64 x2)) ?_ ?_
    · clear hJ30
      refine WE.seq ?_
      refine WE.reg ?_
      refine LE.p (v := (Value.bool (t28 == (2 : Int)))) (Wn.no rfl) rfl (R.eql rfl rfl) ?_
      refine LE.p (v := (Value.bool (t28 == (2 : Int)))) (Wn.no rfl) rfl (R.assign rfl) ?_
      refine LE.nil ?_
      refine WE.condT rfl (b := (t28 == (2 : Int))) rfl ?_ ?_
      · intro hb32
        replace h := M.ite_t h hb32
        refine WE.reg ?_
        refine LE.p (v := (Value.int .i64 x1)) (Wn.no rfl) rfl (R.move f11) ?_
        refine LE.p (v := (Value.pointer (some (b25.add 1)))) (Wn.no rfl) rfl (R.fld (off := 1) fa27_1 rfl) ?_
        obtain ⟨t33, h34, h⟩ := h
        refine LE.r (v := (SV.v t33)) (Wn.no rfl) rfl (R.ld sc25 rfl h34) ?_
        refine LE.p (v := (Value.int .i64 (t33.len : Int))) (Wn.no rfl) rfl (R.len sl25 rfl) ?_
        refine LE.p (v := (Value.int .i64 (IntKind.i64.wrap (x1 + (t33.len : Int))))) (Wn.no rfl) rfl (R.add rfl rfl) ?_
        refine LE.p (v := (Value.int .i64 (IntKind.i64.wrap (x1 + (t33.len : Int))))) (Wn.no rfl) rfl (R.assign rfl) ?_
        refine LE.nil ?_
        exact ⟨_, h, rfl, f12, f13, f14⟩
      · intro hb32
        replace h := M.ite_f h hb32
        refine WE.seq ?_
        refine WE.reg ?_
        refine LE.p (v := (Value.bool (t28 == (1 : Int)))) (Wn.no rfl) rfl (R.eql rfl rfl) ?_
        refine LE.p (v := (Value.bool (t28 == (1 : Int)))) (Wn.no rfl) rfl (R.assign rfl) ?_
        refine LE.nil ?_
        refine WE.condT rfl (b := (t28 == (1 : Int))) rfl ?_ ?_
        · intro hb35
          replace h := M.ite_t h hb35
          refine WE.reg ?_
          refine LE.p (v := (Value.int .i64 x1)) (Wn.no rfl) rfl (R.move f11) ?_
          refine LE.p (v := (Value.int .i64 (IntKind.i64.wrap (x1 + (1 : Int))))) (Wn.no rfl) rfl (R.add rfl rfl) ?_
          refine LE.p (v := (Value.int .i64 (IntKind.i64.wrap (x1 + (1 : Int))))) (Wn.no rfl) rfl (R.assign rfl) ?_
          refine LE.nil ?_
          exact ⟨_, h, rfl, f12, f13, f14⟩
        · intro hb35
          replace h := M.ite_f h hb35
          refine WE.skip ?_
          exact ⟨_, h, f11, f12, f13, f14⟩
    · rintro e36 w37 ⟨x31, h, f38, f39, f40, f41⟩
      subst hJ30
      refine WE.reg ?_
      refine LE.p (v := (Value.int .i64 (IntKind.i64.wrap (x2 + (1 : Int))))) (Wn.no rfl) rfl (R.add f41 rfl) ?_
      refine LE.p (v := (Value.int .i64 (IntKind.i64.wrap (x2 + (1 : Int))))) (Wn.no rfl) rfl (R.move rfl) ?_
      refine LE.nil ?_
      obtain ⟨m9, hm10, h⟩ := h
      exact ⟨m9, hm10, _, _, h, f38, f39, f40, rfl⟩
  · intro hb15
    replace h := M.ite_f h hb15
    refine WE.exit ?_
    refine WE.seq ?_
    refine WE.reg ?_
    refine LE.p (v := (Value.int .i64 x1)) (Wn.no rfl) rfl (R.move f11) ?_
    refine LE.p (v := (Value.int .i64 x1)) (Wn.no rfl) rfl (R.assign rfl) ?_
    refine LE.nil ?_
    refine WE.ret ?_
    exact ⟨_, (Res.tmp rfl Res.nil), _, rfl, h⟩
/-- The formula of signpost.signpostlaw6.known. -/
def F14  (K : Bool → World → Prop) (w0 : World) : Prop :=
M.new (.cells #[(Value.int .u32 (1 : Int)), (Value.int .u32 (2 : Int))] 23) w0 fun b3 w1 =>
M.new (.cells #[(Value.int .u32 (3 : Int)), (Value.int .u32 (4 : Int))] 23) w1 fun b6 w4 =>
M.new (.cells #[(Value.int .i64 (2 : Int)), (SV.v (SV.mk (some b3) 2 2)), (Value.int .i64 (1 : Int)), (SV.v (SV.mk (some b6) 2 2))] 27) w4 fun b9 w7 =>
Calls Try.prog 10 #[(SV.v (SV.mk (some b9) 2 2))] w7 (R10 fun r10 r11 w12 =>
M.join (fun (x14 : Bool) (w35 : World) => 
K x14 w35) fun J13 => 
Calls Try.prog 13 #[(SV.v (SV.mk (some b9) 2 2))] w12 (R13 fun r15 w16 =>
M.ite (r15 == (3 : Int)) (
Calls Try.prog 16 #[(SV.v (SV.mk (some b9) 2 2)), (Value.int .u32 (4 : Int))] w16 (R16 fun r18 w19 =>
M.ite r18 (
Calls Try.prog 16 #[(SV.v (SV.mk (some b9) 2 2)), (Value.int .u32 (5 : Int))] w19 (R16 fun r21 w22 =>
M.ite (!r21) (
M.ite (r10 == (1 : Int)) (
M.ite r11 (
Calls Try.prog 11 #[(SV.v (SV.mk (some b9) 2 2)), (Value.int .u32 (9 : Int)), (Value.int .i64 (2 : Int))] w22 (R11 fun r26 w27 =>
M.idx r26 (0 : Int) 2 fun a28 =>
M.ld SV.v ((a28.add ((0 : Int).toNat * 2)).add 1) w27 fun t32 =>
J13 ((t32.len : Int) == (4 : Int)) w27)) (
J13 false w22)) (
J13 false w22)) (
J13 false w22))) (
J13 false w19))) (
J13 false w16)))
theorem F14_ok {w0 : World}  {K : Bool → World → Prop} (h : F14 K w0) : Calls Try.prog 14 #[] w0 (R14 K) := by
  refine calls_of_WE (args := []) (rs := [.tmp 0]) Try.func14 rfl (N := 42) rfl rfl rfl rfl ?_
  refine WE.seq ?_
  refine WE.reg ?_
  refine LE.p (v := (Value.bool false)) (Wn.no rfl) rfl (R.assign rfl) ?_
  refine LE.nil ?_
  refine WE.seq ?_
  refine WE.reg ?_
  obtain ⟨b3, hpb3, w1, hww1, h⟩ := M.new_use h
  refine LE.r (v := (SV.v (SV.mk (some b3) 2 2))) (Wn.no rfl) rfl (R.bsl (by exact (Ls.cons (R.Pr rfl) (Ls.cons (R.Pr rfl) Ls.nil))) (fun w => bs25_2 (1 : Int) (2 : Int) w) hpb3 hww1) ?_
  refine LE.p (v := (Value.agg #[(Value.int .i64 (2 : Int)), (SV.v (SV.mk (some b3) 2 2))])) (Wn.no rfl) rfl (R.bld (by exact (Ls.cons (R.Pr rfl) (Ls.cons (R.Pr rfl) Ls.nil))) (fun w => bu27_0_1 (2 : Int) (SV.mk (some b3) 2 2) w)) ?_
  obtain ⟨b6, hpb6, w4, hww4, h⟩ := M.new_use h
  refine LE.r (v := (SV.v (SV.mk (some b6) 2 2))) (Wn.no rfl) rfl (R.bsl (by exact (Ls.cons (R.Pr rfl) (Ls.cons (R.Pr rfl) Ls.nil))) (fun w => bs25_2 (3 : Int) (4 : Int) w) hpb6 hww4) ?_
  refine LE.p (v := (Value.agg #[(Value.int .i64 (1 : Int)), (SV.v (SV.mk (some b6) 2 2))])) (Wn.no rfl) rfl (R.bld (by exact (Ls.cons (R.Pr rfl) (Ls.cons (R.Pr rfl) Ls.nil))) (fun w => bu27_0_1 (1 : Int) (SV.mk (some b6) 2 2) w)) ?_
  obtain ⟨b9, hpb9, w7, hww7, h⟩ := M.new_use h
  refine LE.r (v := (SV.v (SV.mk (some b9) 2 2))) (Wn.no rfl) rfl (R.bsl (by exact (Ls.cons (R.Pr rfl) (Ls.cons (R.Pr rfl) Ls.nil))) (fun w => bs24_2 (2 : Int) (SV.mk (some b3) 2 2) (1 : Int) (SV.mk (some b6) 2 2) w) hpb9 hww7) ?_
  refine LE.p (v := (SV.v (SV.mk (some b9) 2 2))) (Wn.no rfl) rfl (R.assign rfl) ?_
  refine LE.nil ?_
  refine WE.seq ?_
  refine WE.reg ?_
  refine LE.p (v := (SV.v (SV.mk (some b9) 2 2))) (Wn.no rfl) rfl (R.move rfl) ?_
  refine LE.c (Wn.no rfl) rfl (R.call bd10 (Ls.cons rfl Ls.nil) rfl) (Calls.mono h ?_)
  rintro _ w12 ⟨r10, r11, rfl, h⟩
  refine ⟨_, rfl, ?_⟩
  refine LE.p (v := (Value.tuple #[(Value.int .u32 r10), (Value.bool r11)])) (Wn.no rfl) rfl (R.move rfl) ?_
  refine LE.p (v := (Value.int .u32 r10)) (Wn.no rfl) rfl (R.ext rfl rfl) ?_
  refine LE.p (v := (Value.bool r11)) (Wn.no rfl) rfl (R.ext rfl rfl) ?_
  refine LE.p (v := (Value.int .u32 r10)) (Wn.no rfl) rfl (R.assign rfl) ?_
  refine LE.p (v := (Value.bool r11)) (Wn.no rfl) rfl (R.assign rfl) ?_
  refine LE.nil ?_
  refine WE.seq ?_
  obtain ⟨J13, hJ13, h⟩ := M.join_use h
  refine WE.regJ (fun e w => ∃ (x14 : Bool), J13 x14 w ∧ e 0 = (Value.bool x14)) ?_ ?_
  · clear hJ13
    refine LE.p (v := (SV.v (SV.mk (some b9) 2 2))) (Wn.no rfl) rfl (R.move rfl) ?_
    refine LE.c (Wn.no rfl) rfl (R.call bd13 (Ls.cons rfl Ls.nil) rfl) (Calls.mono h ?_)
    rintro _ w16 ⟨r15, rfl, h⟩
    refine ⟨_, rfl, ?_⟩
    refine LE.p (v := (Value.bool (r15 == (3 : Int)))) (Wn.no rfl) rfl (R.eql rfl rfl) ?_
    refine LE.p (v := (Value.bool (r15 == (3 : Int)))) (Wn.no rfl) rfl (R.move rfl) ?_
    rcases M.ite_use h with ⟨hb17, h⟩ | ⟨hb17, h⟩
    · refine LE.p (v := (SV.v (SV.mk (some b9) 2 2))) (Wn.yes 3 17 true rfl rfl rfl (congrArg Value.bool hb17)) rfl (R.move rfl) ?_
      refine LE.c (Wn.yes 3 17 true rfl rfl rfl (congrArg Value.bool hb17)) rfl (R.call bd16 (Ls.cons rfl (Ls.cons rfl Ls.nil)) rfl) (Calls.mono h ?_)
      rintro _ w19 ⟨r18, rfl, h⟩
      refine ⟨_, rfl, ?_⟩
      refine LE.p (v := (Value.bool r18)) (Wn.no rfl) rfl (R.pickT (congrArg Value.bool hb17) rfl) ?_
      refine LE.p (v := (Value.bool r18)) (Wn.no rfl) rfl (R.move rfl) ?_
      rcases M.ite_use h with ⟨hb20, h⟩ | ⟨hb20, h⟩
      · refine LE.p (v := (SV.v (SV.mk (some b9) 2 2))) (Wn.yes 7 21 true rfl rfl rfl (congrArg Value.bool hb20)) rfl (R.move rfl) ?_
        refine LE.c (Wn.yes 7 21 true rfl rfl rfl (congrArg Value.bool hb20)) rfl (R.call bd16 (Ls.cons rfl (Ls.cons rfl Ls.nil)) rfl) (Calls.mono h ?_)
        rintro _ w22 ⟨r21, rfl, h⟩
        refine ⟨_, rfl, ?_⟩
        refine LE.p (v := (Value.bool (!r21))) (Wn.yes 7 21 true rfl rfl rfl (congrArg Value.bool hb20)) rfl (R.not rfl) ?_
        refine LE.p (v := (Value.bool (!r21))) (Wn.no rfl) rfl (R.pickT (congrArg Value.bool hb20) rfl) ?_
        refine LE.p (v := (Value.bool (!r21))) (Wn.no rfl) rfl (R.move rfl) ?_
        rcases M.ite_use h with ⟨hb23, h⟩ | ⟨hb23, h⟩
        · refine LE.p (v := (Value.int .u32 r10)) (Wn.yes 12 26 true rfl rfl rfl (congrArg Value.bool hb23)) rfl (R.move rfl) ?_
          refine LE.p (v := (Value.bool (r10 == (1 : Int)))) (Wn.yes 12 26 true rfl rfl rfl (congrArg Value.bool hb23)) rfl (R.eql rfl rfl) ?_
          refine LE.p (v := (Value.bool (r10 == (1 : Int)))) (Wn.no rfl) rfl (R.pickT (congrArg Value.bool hb23) rfl) ?_
          refine LE.p (v := (Value.bool (r10 == (1 : Int)))) (Wn.no rfl) rfl (R.move rfl) ?_
          rcases M.ite_use h with ⟨hb24, h⟩ | ⟨hb24, h⟩
          · refine LE.p (v := (Value.bool r11)) (Wn.yes 16 30 true rfl rfl rfl (congrArg Value.bool hb24)) rfl (R.move rfl) ?_
            refine LE.p (v := (Value.bool r11)) (Wn.no rfl) rfl (R.pickT (congrArg Value.bool hb24) rfl) ?_
            refine LE.p (v := (Value.bool r11)) (Wn.no rfl) rfl (R.move rfl) ?_
            rcases M.ite_use h with ⟨hb25, h⟩ | ⟨hb25, h⟩
            · refine LE.p (v := (SV.v (SV.mk (some b9) 2 2))) (Wn.yes 19 33 true rfl rfl rfl (congrArg Value.bool hb25)) rfl (R.move rfl) ?_
              refine LE.c (Wn.yes 19 33 true rfl rfl rfl (congrArg Value.bool hb25)) rfl (R.call bd11 (Ls.cons rfl (Ls.cons rfl (Ls.cons rfl Ls.nil))) rfl) (Calls.mono h ?_)
              rintro _ w27 ⟨r26, rfl, h⟩
              refine ⟨_, rfl, ?_⟩
              obtain ⟨a28, h29, h30, h31, h⟩ := h
              refine LE.p (v := (Value.pointer (some (a28.add ((0 : Int).toNat * 2))))) (Wn.yes 19 33 true rfl rfl rfl (congrArg Value.bool hb25)) rfl (R.idx (s := r26) sl24 rfl rfl h29 h30 h31) ?_
              refine LE.p (v := (Value.pointer (some ((a28.add ((0 : Int).toNat * 2)).add 1)))) (Wn.yes 19 33 true rfl rfl rfl (congrArg Value.bool hb25)) rfl (R.fld (off := 1) fa27_1 rfl) ?_
              obtain ⟨t32, h33, h⟩ := h
              refine LE.r (v := (SV.v t32)) (Wn.yes 19 33 true rfl rfl rfl (congrArg Value.bool hb25)) rfl (R.ld sc25 rfl h33) ?_
              refine LE.p (v := (Value.int .i64 (t32.len : Int))) (Wn.yes 19 33 true rfl rfl rfl (congrArg Value.bool hb25)) rfl (R.len sl25 rfl) ?_
              refine LE.p (v := (Value.bool ((t32.len : Int) == (4 : Int)))) (Wn.yes 19 33 true rfl rfl rfl (congrArg Value.bool hb25)) rfl (R.eql rfl rfl) ?_
              refine LE.p (v := (Value.bool ((t32.len : Int) == (4 : Int)))) (Wn.no rfl) rfl (R.pickT (congrArg Value.bool hb25) rfl) ?_
              refine LE.p (v := (Value.bool ((t32.len : Int) == (4 : Int)))) (Wn.no rfl) rfl (R.assign rfl) ?_
              refine LE.nil ?_
              exact ⟨_, h, rfl⟩
            · refine LE.u (Un.no 19 33 true rfl rfl rfl (congrArg Value.bool hb25)) ?_
              refine LE.u (Un.no 19 33 true rfl rfl rfl (congrArg Value.bool hb25)) ?_
              refine LE.u (Un.no 19 33 true rfl rfl rfl (congrArg Value.bool hb25)) ?_
              refine LE.u (Un.no 19 33 true rfl rfl rfl (congrArg Value.bool hb25)) ?_
              refine LE.u (Un.no 19 33 true rfl rfl rfl (congrArg Value.bool hb25)) ?_
              refine LE.u (Un.no 19 33 true rfl rfl rfl (congrArg Value.bool hb25)) ?_
              refine LE.u (Un.no 19 33 true rfl rfl rfl (congrArg Value.bool hb25)) ?_
              refine LE.p (v := (Value.bool false)) (Wn.no rfl) rfl (R.pickF (congrArg Value.bool hb25) rfl) ?_
              refine LE.p (v := (Value.bool false)) (Wn.no rfl) rfl (R.assign rfl) ?_
              refine LE.nil ?_
              exact ⟨_, h, rfl⟩
          · refine LE.u (Un.no 16 30 true rfl rfl rfl (congrArg Value.bool hb24)) ?_
            refine LE.p (v := (Value.bool false)) (Wn.no rfl) rfl (R.pickF (congrArg Value.bool hb24) rfl) ?_
            refine LE.p (v := (Value.bool false)) (Wn.no rfl) rfl (R.move rfl) ?_
            refine LE.u (Un.no 19 33 true rfl rfl rfl rfl) ?_
            refine LE.u (Un.no 19 33 true rfl rfl rfl rfl) ?_
            refine LE.u (Un.no 19 33 true rfl rfl rfl rfl) ?_
            refine LE.u (Un.no 19 33 true rfl rfl rfl rfl) ?_
            refine LE.u (Un.no 19 33 true rfl rfl rfl rfl) ?_
            refine LE.u (Un.no 19 33 true rfl rfl rfl rfl) ?_
            refine LE.u (Un.no 19 33 true rfl rfl rfl rfl) ?_
            refine LE.p (v := (Value.bool false)) (Wn.no rfl) rfl (R.pickF rfl rfl) ?_
            refine LE.p (v := (Value.bool false)) (Wn.no rfl) rfl (R.assign rfl) ?_
            refine LE.nil ?_
            exact ⟨_, h, rfl⟩
        · refine LE.u (Un.no 12 26 true rfl rfl rfl (congrArg Value.bool hb23)) ?_
          refine LE.u (Un.no 12 26 true rfl rfl rfl (congrArg Value.bool hb23)) ?_
          refine LE.p (v := (Value.bool false)) (Wn.no rfl) rfl (R.pickF (congrArg Value.bool hb23) rfl) ?_
          refine LE.p (v := (Value.bool false)) (Wn.no rfl) rfl (R.move rfl) ?_
          refine LE.u (Un.no 16 30 true rfl rfl rfl rfl) ?_
          refine LE.p (v := (Value.bool false)) (Wn.no rfl) rfl (R.pickF rfl rfl) ?_
          refine LE.p (v := (Value.bool false)) (Wn.no rfl) rfl (R.move rfl) ?_
          refine LE.u (Un.no 19 33 true rfl rfl rfl rfl) ?_
          refine LE.u (Un.no 19 33 true rfl rfl rfl rfl) ?_
          refine LE.u (Un.no 19 33 true rfl rfl rfl rfl) ?_
          refine LE.u (Un.no 19 33 true rfl rfl rfl rfl) ?_
          refine LE.u (Un.no 19 33 true rfl rfl rfl rfl) ?_
          refine LE.u (Un.no 19 33 true rfl rfl rfl rfl) ?_
          refine LE.u (Un.no 19 33 true rfl rfl rfl rfl) ?_
          refine LE.p (v := (Value.bool false)) (Wn.no rfl) rfl (R.pickF rfl rfl) ?_
          refine LE.p (v := (Value.bool false)) (Wn.no rfl) rfl (R.assign rfl) ?_
          refine LE.nil ?_
          exact ⟨_, h, rfl⟩
      · refine LE.u (Un.no 7 21 true rfl rfl rfl (congrArg Value.bool hb20)) ?_
        refine LE.u (Un.no 7 21 true rfl rfl rfl (congrArg Value.bool hb20)) ?_
        refine LE.u (Un.no 7 21 true rfl rfl rfl (congrArg Value.bool hb20)) ?_
        refine LE.p (v := (Value.bool false)) (Wn.no rfl) rfl (R.pickF (congrArg Value.bool hb20) rfl) ?_
        refine LE.p (v := (Value.bool false)) (Wn.no rfl) rfl (R.move rfl) ?_
        refine LE.u (Un.no 12 26 true rfl rfl rfl rfl) ?_
        refine LE.u (Un.no 12 26 true rfl rfl rfl rfl) ?_
        refine LE.p (v := (Value.bool false)) (Wn.no rfl) rfl (R.pickF rfl rfl) ?_
        refine LE.p (v := (Value.bool false)) (Wn.no rfl) rfl (R.move rfl) ?_
        refine LE.u (Un.no 16 30 true rfl rfl rfl rfl) ?_
        refine LE.p (v := (Value.bool false)) (Wn.no rfl) rfl (R.pickF rfl rfl) ?_
        refine LE.p (v := (Value.bool false)) (Wn.no rfl) rfl (R.move rfl) ?_
        refine LE.u (Un.no 19 33 true rfl rfl rfl rfl) ?_
        refine LE.u (Un.no 19 33 true rfl rfl rfl rfl) ?_
        refine LE.u (Un.no 19 33 true rfl rfl rfl rfl) ?_
        refine LE.u (Un.no 19 33 true rfl rfl rfl rfl) ?_
        refine LE.u (Un.no 19 33 true rfl rfl rfl rfl) ?_
        refine LE.u (Un.no 19 33 true rfl rfl rfl rfl) ?_
        refine LE.u (Un.no 19 33 true rfl rfl rfl rfl) ?_
        refine LE.p (v := (Value.bool false)) (Wn.no rfl) rfl (R.pickF rfl rfl) ?_
        refine LE.p (v := (Value.bool false)) (Wn.no rfl) rfl (R.assign rfl) ?_
        refine LE.nil ?_
        exact ⟨_, h, rfl⟩
    · refine LE.u (Un.no 3 17 true rfl rfl rfl (congrArg Value.bool hb17)) ?_
      refine LE.u (Un.no 3 17 true rfl rfl rfl (congrArg Value.bool hb17)) ?_
      refine LE.p (v := (Value.bool false)) (Wn.no rfl) rfl (R.pickF (congrArg Value.bool hb17) rfl) ?_
      refine LE.p (v := (Value.bool false)) (Wn.no rfl) rfl (R.move rfl) ?_
      refine LE.u (Un.no 7 21 true rfl rfl rfl rfl) ?_
      refine LE.u (Un.no 7 21 true rfl rfl rfl rfl) ?_
      refine LE.u (Un.no 7 21 true rfl rfl rfl rfl) ?_
      refine LE.p (v := (Value.bool false)) (Wn.no rfl) rfl (R.pickF rfl rfl) ?_
      refine LE.p (v := (Value.bool false)) (Wn.no rfl) rfl (R.move rfl) ?_
      refine LE.u (Un.no 12 26 true rfl rfl rfl rfl) ?_
      refine LE.u (Un.no 12 26 true rfl rfl rfl rfl) ?_
      refine LE.p (v := (Value.bool false)) (Wn.no rfl) rfl (R.pickF rfl rfl) ?_
      refine LE.p (v := (Value.bool false)) (Wn.no rfl) rfl (R.move rfl) ?_
      refine LE.u (Un.no 16 30 true rfl rfl rfl rfl) ?_
      refine LE.p (v := (Value.bool false)) (Wn.no rfl) rfl (R.pickF rfl rfl) ?_
      refine LE.p (v := (Value.bool false)) (Wn.no rfl) rfl (R.move rfl) ?_
      refine LE.u (Un.no 19 33 true rfl rfl rfl rfl) ?_
      refine LE.u (Un.no 19 33 true rfl rfl rfl rfl) ?_
      refine LE.u (Un.no 19 33 true rfl rfl rfl rfl) ?_
      refine LE.u (Un.no 19 33 true rfl rfl rfl rfl) ?_
      refine LE.u (Un.no 19 33 true rfl rfl rfl rfl) ?_
      refine LE.u (Un.no 19 33 true rfl rfl rfl rfl) ?_
      refine LE.u (Un.no 19 33 true rfl rfl rfl rfl) ?_
      refine LE.p (v := (Value.bool false)) (Wn.no rfl) rfl (R.pickF rfl rfl) ?_
      refine LE.p (v := (Value.bool false)) (Wn.no rfl) rfl (R.assign rfl) ?_
      refine LE.nil ?_
      exact ⟨_, h, rfl⟩
  · rintro e34 w35 ⟨x14, h, f36⟩
    subst hJ13
    refine WE.ret ?_
    exact ⟨_, (Res.tmp f36 Res.nil), _, rfl, h⟩
/-- The formula of signpost.signpostlaw6.right. -/
def F15 (p0 : SV) (K : SV → World → Prop) (w0 : World) : Prop :=
M.loop2 (fun (J3 : SV → Int → World → Prop) (x1 : SV) (x2 : Int) (w4 : World) => 
M.join (fun (x15 : Bool) (w18 : World) => 
M.ite x15 (
M.join (fun (x25 : SV) (w78 : World) => 
J3 x25 (IntKind.i64.wrap (x2 + (1 : Int))) w78) fun J24 => 
M.idx p0 x2 2 fun a26 =>
M.ld (Value.int .i64) (a26.add (x2.toNat * 2)) w18 fun t30 =>
M.ld SV.v ((a26.add (x2.toNat * 2)).add 1) w18 fun t32 =>
M.new (.cells #[(Value.int .i64 (0 : Int)), (SV.v SV.nil)] 27) w18 fun b35 w34 =>
M.stA b35 [(Value.int .i64 t30), (SV.v t32)] w34 fun w36 =>
M.ld SV.v (b35.add 1) w36 fun t38 =>
M.ite (decide ((0 : Int) < (t38.len : Int))) (
M.join (fun (w55 : World) => 
M.ld (Value.int .i64) b35 w55 fun t60 =>
Calls Try.prog 9 #[(Value.int .i64 t60), (Value.int .i64 (0 : Int)), (Value.int .i64 (1 : Int))] w55 (R9 fun r62 w63 =>
M.st b35 (Value.int .i64 (IntKind.i64.wrap ((1 : Int) + r62))) w63 fun w64 =>
M.ld (Value.int .i64) b35 w64 fun t67 =>
M.ld SV.v (b35.add 1) w64 fun t69 =>
M.new (.cells #[(Value.int .i64 t67), (SV.v t69)] 27) w64 fun b73 w71 =>
M.app Try.prog 24 24 24 x1 (SV.v (SV.mk (some b73) 1 1)) w71 fun s74 w75 =>
J24 s74 w75)) fun J41 => 
M.ld SV.v (b35.add 1) w36 fun t42 =>
M.ite (decide ((6 : Int) < (t42.len : Int))) (
M.ld SV.v (b35.add 1) w36 fun t45 =>
M.bnd (0 : Int) (6 : Int) t45 <|
M.st (b35.add 1) (SV.v (SV.sub t45 (Int.toNat (0 : Int)) (Int.toNat (6 : Int)) 1)) w36 fun w51 =>
J41 w51) (
J41 w36)) (
J24 x1 w36)) (
K x1 w18)) fun J14 => 
M.ite (decide (x2 < (p0.len : Int))) (
J14 (decide ((x1.len : Int) < (6 : Int))) w4) (
J14 false w4)) SV.nil (0 : Int) w0
theorem F15_ok {w0 : World} {p0 : SV} {K : SV → World → Prop} (h : F15 p0 K w0) : Calls Try.prog 15 #[(SV.v p0)] w0 (R15 K) := by
  refine calls_of_WE (args := [(SV.v p0)]) (rs := [.tmp 2]) Try.func15 rfl (N := 43) rfl rfl rfl rfl ?_
  refine WE.seq ?_
  refine WE.reg ?_
  refine LE.p (v := (SV.v SV.nil)) (Wn.no rfl) rfl (R.assign rfl) ?_
  refine LE.nil ?_
  refine WE.seq ?_
  refine WE.reg ?_
  refine LE.p (v := (SV.v SV.nil)) (Wn.no rfl) rfl (R.assign rfl) ?_
  refine LE.nil ?_
  refine WE.seq ?_
  refine WE.seq ?_
  refine WE.reg ?_
  refine LE.p (v := (Value.int .i64 (0 : Int))) (Wn.no rfl) rfl (R.assign rfl) ?_
  refine LE.nil ?_
  refine WE.block ?_
  obtain ⟨I7, ⟨n6, h⟩, hr8⟩ := h
  refine WE.loop (fun n e w => ∃ (x1 : SV) (x2 : Int), I7 n x1 x2 w ∧ e 0 = (SV.v p0) ∧ e 3 = (SV.v x1) ∧ e 4 = (Value.int .i64 x2)) n6 ⟨_, _, h, rfl, rfl, rfl⟩ ?_
  clear h
  rintro n6 e5 w4 ⟨x1, x2, h, f11, f12, f13⟩
  replace h := hr8 n6 x1 x2 w4 h
  refine WE.seq ?_
  refine WE.seq ?_
  obtain ⟨J14, hJ14, h⟩ := M.join_use h
  refine WE.regJ (fun e w => ∃ (x15 : Bool), J14 x15 w ∧ e 0 = (SV.v p0) ∧ e 3 = (SV.v x1) ∧ e 4 = (Value.int .i64 x2) ∧ e 14 = (Value.bool x15)) ?_ ?_
  · clear hJ14
    refine LE.p (v := (Value.int .i64 x2)) (Wn.no rfl) rfl (R.move f13) ?_
    refine LE.p (v := (SV.v p0)) (Wn.no rfl) rfl (R.move f11) ?_
    refine LE.p (v := (Value.int .i64 (p0.len : Int))) (Wn.no rfl) rfl (R.len sl24 rfl) ?_
    refine LE.p (v := (Value.bool (decide (x2 < (p0.len : Int))))) (Wn.no rfl) rfl (R.lss rfl rfl) ?_
    refine LE.p (v := (Value.bool (decide (x2 < (p0.len : Int))))) (Wn.no rfl) rfl (R.move rfl) ?_
    rcases M.ite_use h with ⟨hb16, h⟩ | ⟨hb16, h⟩
    · refine LE.p (v := (SV.v x1)) (Wn.yes 4 10 true rfl rfl rfl (congrArg Value.bool hb16)) rfl (R.move f12) ?_
      refine LE.p (v := (Value.int .i64 (x1.len : Int))) (Wn.yes 4 10 true rfl rfl rfl (congrArg Value.bool hb16)) rfl (R.len sl24 rfl) ?_
      refine LE.p (v := (Value.bool (decide ((x1.len : Int) < (6 : Int))))) (Wn.yes 4 10 true rfl rfl rfl (congrArg Value.bool hb16)) rfl (R.lss rfl rfl) ?_
      refine LE.p (v := (Value.bool (decide ((x1.len : Int) < (6 : Int))))) (Wn.no rfl) rfl (R.pickT (congrArg Value.bool hb16) rfl) ?_
      refine LE.nil ?_
      exact ⟨_, h, f11, f12, f13, rfl⟩
    · refine LE.u (Un.no 4 10 true rfl rfl rfl (congrArg Value.bool hb16)) ?_
      refine LE.u (Un.no 4 10 true rfl rfl rfl (congrArg Value.bool hb16)) ?_
      refine LE.u (Un.no 4 10 true rfl rfl rfl (congrArg Value.bool hb16)) ?_
      refine LE.p (v := (Value.bool false)) (Wn.no rfl) rfl (R.pickF (congrArg Value.bool hb16) rfl) ?_
      refine LE.nil ?_
      exact ⟨_, h, f11, f12, f13, rfl⟩
  · rintro e17 w18 ⟨x15, h, f19, f20, f21, f22⟩
    subst hJ14
    refine WE.condT rfl (b := x15) f22 ?_ ?_
    · intro hb23
      replace h := M.ite_t h hb23
      refine WE.skip ?_
      refine WE.seq ?_
      obtain ⟨J24, hJ24, h⟩ := M.join_use h
      refine WE.blkJ (fun e w => ∃ (x25 : SV), J24 x25 w ∧ e 0 = (SV.v p0) ∧ e 3 = (SV.v x25) ∧ e 4 = (Value.int .i64 x2)) ?_ ?_
      · clear hJ24
        refine WE.seq ?_
        refine WE.reg ?_
        refine LE.p (v := (SV.v p0)) (Wn.no rfl) rfl (R.move f19) ?_
        refine LE.p (v := (Value.int .i64 x2)) (Wn.no rfl) rfl (R.move f21) ?_
        obtain ⟨a26, h27, h28, h29, h⟩ := h
        refine LE.p (v := (Value.pointer (some (a26.add (x2.toNat * 2))))) (Wn.no rfl) rfl (R.idx (s := p0) sl24 rfl rfl h27 h28 h29) ?_
        obtain ⟨t30, h31, h⟩ := h
        obtain ⟨t32, h33, h⟩ := h
        refine LE.r (v := (Value.agg #[(Value.int .i64 t30), (SV.v t32)])) (Wn.no rfl) rfl (R.ldA ag27 sz27 rfl rfl (Cs.cons h31 (Cs.cons h33 Cs.nil))) ?_
        obtain ⟨b35, hpb35, w34, hww34, h⟩ := M.new_use h
        refine LE.r (v := (Value.pointer (some b35))) (Wn.no rfl) rfl (R.alloc (cs := #[(Value.int .i64 (0 : Int)), (SV.v SV.nil)]) ze27 rfl hpb35 hww34) ?_
        obtain ⟨w36, hww36, h37, h⟩ := M.stA_use h
        refine LE.s (Wn.no rfl) rfl (R.stA (a := b35) [(Value.int .i64 t30), (SV.v t32)] sz27 rfl rfl rfl (by simp [Value.oneCell']) h37 hww36) ?_
        refine LE.nil ?_
        refine WE.seq ?_
        refine WE.reg ?_
        refine LE.p (v := (Value.pointer (some (b35.add 1)))) (Wn.no rfl) rfl (R.fld (off := 1) fa27_1 rfl) ?_
        obtain ⟨t38, h39, h⟩ := h
        refine LE.r (v := (SV.v t38)) (Wn.no rfl) rfl (R.ld sc25 rfl h39) ?_
        refine LE.p (v := (Value.int .i64 (t38.len : Int))) (Wn.no rfl) rfl (R.len sl25 rfl) ?_
        refine LE.p (v := (Value.bool (decide ((0 : Int) < (t38.len : Int))))) (Wn.no rfl) rfl (R.gtr rfl rfl) ?_
        refine LE.nil ?_
        refine WE.condT rfl (b := (decide ((0 : Int) < (t38.len : Int)))) rfl ?_ ?_
        · intro hb40
          replace h := M.ite_t h hb40
          obtain ⟨J41, hJ41, h⟩ := M.join_use h
          refine WE.join (fun e w => J41 w ∧ e 0 = (SV.v p0) ∧ e 3 = (SV.v x1) ∧ e 4 = (Value.int .i64 x2) ∧ e 5 = (Value.pointer (some b35))) ?_ ?_
          · clear hJ41
            refine WE.seq ?_
            refine WE.reg ?_
            refine LE.p (v := (Value.pointer (some (b35.add 1)))) (Wn.no rfl) rfl (R.fld (off := 1) fa27_1 rfl) ?_
            obtain ⟨t42, h43, h⟩ := h
            refine LE.r (v := (SV.v t42)) (Wn.no rfl) rfl (R.ld sc25 rfl h43) ?_
            refine LE.p (v := (Value.int .i64 (t42.len : Int))) (Wn.no rfl) rfl (R.len sl25 rfl) ?_
            refine LE.p (v := (Value.bool (decide ((6 : Int) < (t42.len : Int))))) (Wn.no rfl) rfl (R.gtr rfl rfl) ?_
            refine LE.nil ?_
            refine WE.condT rfl (b := (decide ((6 : Int) < (t42.len : Int)))) rfl ?_ ?_
            · intro hb44
              replace h := M.ite_t h hb44
              refine WE.reg ?_
              refine LE.p (v := (Value.pointer (some (b35.add 1)))) (Wn.no rfl) rfl (R.fld (off := 1) fa27_1 rfl) ?_
              obtain ⟨t45, h46, h⟩ := h
              refine LE.r (v := (SV.v t45)) (Wn.no rfl) rfl (R.ld sc25 rfl h46) ?_
              obtain ⟨h47, h48, h49, h⟩ := h
              refine LE.p (v := (SV.v (SV.sub t45 (Int.toNat (0 : Int)) (Int.toNat (6 : Int)) 1))) (Wn.no rfl) rfl (R.slc (s := t45) (lo := (0 : Int)) (hi := (6 : Int)) _ _ sl25 rfl rfl rfl h47 h48 h49) ?_
              refine LE.p (v := (Value.pointer (some (b35.add 1)))) (Wn.no rfl) rfl (R.fld (off := 1) fa27_1 rfl) ?_
              obtain ⟨w51, hww51, h52, h53, h⟩ := M.st_use h
              refine LE.s (Wn.no rfl) rfl (R.st (a := (b35.add 1)) (v := (SV.v (SV.sub t45 (Int.toNat (0 : Int)) (Int.toNat (6 : Int)) 1))) sz25 rfl rfl rfl rfl h52 h53 hww51) ?_
              refine LE.nil ?_
              exact ⟨h, f19, f20, f21, rfl⟩
            · intro hb44
              replace h := M.ite_f h hb44
              refine WE.skip ?_
              exact ⟨h, f19, f20, f21, rfl⟩
          · rintro e54 w55 ⟨h, f56, f57, f58, f59⟩
            subst hJ41
            refine WE.seq ?_
            refine WE.reg ?_
            refine LE.p (v := (Value.pointer (some b35))) (Wn.no rfl) rfl (R.fld (off := 0) fa27_0 f59) ?_
            obtain ⟨t60, h61, h⟩ := h
            refine LE.r (v := (Value.int .i64 t60)) (Wn.no rfl) rfl (R.ld sc3 rfl h61) ?_
            refine LE.c (Wn.no rfl) rfl (R.call bd9 (Ls.cons rfl (Ls.cons rfl (Ls.cons rfl Ls.nil))) rfl) (Calls.mono h ?_)
            rintro _ w63 ⟨r62, rfl, h⟩
            refine ⟨_, rfl, ?_⟩
            refine LE.p (v := (Value.int .i64 (IntKind.i64.wrap ((1 : Int) + r62)))) (Wn.no rfl) rfl (R.add rfl rfl) ?_
            refine LE.p (v := (Value.pointer (some b35))) (Wn.no rfl) rfl (R.fld (off := 0) fa27_0 f59) ?_
            obtain ⟨w64, hww64, h65, h66, h⟩ := M.st_use h
            refine LE.s (Wn.no rfl) rfl (R.st (a := b35) (v := (Value.int .i64 (IntKind.i64.wrap ((1 : Int) + r62)))) sz3 rfl rfl rfl rfl h65 h66 hww64) ?_
            refine LE.nil ?_
            refine WE.reg ?_
            refine LE.p (v := (SV.v x1)) (Wn.no rfl) rfl (R.move f57) ?_
            obtain ⟨t67, h68, h⟩ := h
            obtain ⟨t69, h70, h⟩ := h
            refine LE.r (v := (Value.agg #[(Value.int .i64 t67), (SV.v t69)])) (Wn.no rfl) rfl (R.ldA ag27 sz27 f59 rfl (Cs.cons h68 (Cs.cons h70 Cs.nil))) ?_
            obtain ⟨b73, hpb73, w71, hww71, h⟩ := M.new_use h
            refine LE.r (v := (SV.v (SV.mk (some b73) 1 1))) (Wn.no rfl) rfl (R.bsl (by exact (Ls.cons (R.Pr rfl) Ls.nil)) (fun w => bs24_1 t67 t69 w) hpb73 hww71) ?_
            obtain ⟨s74, w75, h76, h⟩ := h
            refine LE.r (v := (SV.v s74)) (Wn.no rfl) rfl (R.app (s := x1) (r := s74) rfl rfl h76) ?_
            refine LE.p (v := (SV.v s74)) (Wn.no rfl) rfl (R.assign rfl) ?_
            refine LE.nil ?_
            exact ⟨_, h, f56, rfl, f58⟩
        · intro hb40
          replace h := M.ite_f h hb40
          refine WE.skip ?_
          exact ⟨_, h, f19, f20, f21⟩
      · rintro e77 w78 ⟨x25, h, f79, f80, f81⟩
        subst hJ24
        refine WE.reg ?_
        refine LE.p (v := (Value.int .i64 x2)) (Wn.no rfl) rfl (R.move f81) ?_
        refine LE.p (v := (Value.int .i64 (IntKind.i64.wrap (x2 + (1 : Int))))) (Wn.no rfl) rfl (R.add rfl rfl) ?_
        refine LE.p (v := (Value.int .i64 (IntKind.i64.wrap (x2 + (1 : Int))))) (Wn.no rfl) rfl (R.assign rfl) ?_
        refine LE.nil ?_
        obtain ⟨m9, hm10, h⟩ := h
        exact ⟨m9, hm10, _, _, h, f79, f80, rfl⟩
    · intro hb23
      replace h := M.ite_f h hb23
      refine WE.exit ?_
      refine WE.seq ?_
      refine WE.reg ?_
      refine LE.p (v := (SV.v x1)) (Wn.no rfl) rfl (R.move f20) ?_
      refine LE.p (v := (SV.v x1)) (Wn.no rfl) rfl (R.assign rfl) ?_
      refine LE.nil ?_
      refine WE.ret ?_
      exact ⟨_, (Res.tmp rfl Res.nil), _, rfl, h⟩
/-- The formula of signpost.aspath.Has. -/
def F16 (p0 : SV) (p1 : Int) (K : Bool → World → Prop) (w0 : World) : Prop :=
M.join (fun (x2 : Bool) (w60 : World) => 
K x2 w60) fun J1 => 
M.loop2 (fun (J5 : Bool → Int → World → Prop) (x3 : Bool) (x4 : Int) (w6 : World) => 
M.ite (decide (x4 < (p0.len : Int))) (
M.idx p0 x4 2 fun a19 =>
M.ld (Value.int .i64) (a19.add (x4.toNat * 2)) w6 fun t23 =>
M.ld SV.v ((a19.add (x4.toNat * 2)).add 1) w6 fun t25 =>
M.new (.cells #[(Value.int .i64 (0 : Int)), (SV.v SV.nil)] 27) w6 fun b28 w27 =>
M.stA b28 [(Value.int .i64 t23), (SV.v t25)] w27 fun w29 =>
M.ld SV.v (b28.add 1) w29 fun t31 =>
M.loop2 (fun (J35 : Bool → Int → World → Prop) (x33 : Bool) (x34 : Int) (w36 : World) => 
M.ite (decide (x34 < (t31.len : Int))) (
M.idx t31 x34 1 fun a52 =>
M.ld (Value.int .u32) (a52.add (x34.toNat * 1)) w36 fun t56 =>
M.ite (t56 == p1) (
J1 true w36) (
J35 x33 (IntKind.i64.wrap (x34 + (1 : Int))) w36)) (
J5 x33 (IntKind.i64.wrap (x4 + (1 : Int))) w36)) x3 (0 : Int) w29) (
J1 x3 w6)) false (0 : Int) w0
theorem F16_ok {w0 : World} {p0 : SV} {p1 : Int} {K : Bool → World → Prop} (h : F16 p0 p1 K w0) : Calls Try.prog 16 #[(SV.v p0), (Value.int .u32 p1)] w0 (R16 K) := by
  refine calls_of_WE (args := [(SV.v p0), (Value.int .u32 p1)]) (rs := [.tmp 4]) Try.func16 rfl (N := 29) rfl rfl rfl rfl ?_
  refine WE.seq ?_
  refine WE.reg ?_
  refine LE.p (v := (Value.bool false)) (Wn.no rfl) rfl (R.assign rfl) ?_
  refine LE.nil ?_
  refine WE.scope ?_
  refine WE.seq ?_
  refine WE.reg ?_
  refine LE.p (v := (Value.bool false)) (Wn.no rfl) rfl (R.assign rfl) ?_
  refine LE.nil ?_
  refine WE.seq ?_
  refine WE.label ?_
  refine WE.seq ?_
  refine WE.seq ?_
  refine WE.reg ?_
  refine LE.p (v := (SV.v p0)) (Wn.no rfl) rfl (R.move rfl) ?_
  refine LE.p (v := (Value.int .i64 (p0.len : Int))) (Wn.no rfl) rfl (R.len sl24 rfl) ?_
  refine LE.p (v := (Value.int .i64 (0 : Int))) (Wn.no rfl) rfl (R.move rfl) ?_
  refine LE.nil ?_
  obtain ⟨J1, hJ1, h⟩ := M.join_use h
  refine WE.blkJ (fun e w => ∃ (x2 : Bool), J1 x2 w ∧ e 5 = (Value.bool x2)) ?_ ?_
  · clear hJ1
    obtain ⟨I9, ⟨n8, h⟩, hr10⟩ := h
    refine WE.loop (fun n e w => ∃ (x3 : Bool) (x4 : Int), I9 n x3 x4 w ∧ e 1 = (Value.int .u32 p1) ∧ e 5 = (Value.bool x3) ∧ e 10 = (SV.v p0) ∧ e 11 = (Value.int .i64 (p0.len : Int)) ∧ e 12 = (Value.int .i64 x4)) n8 ⟨_, _, h, rfl, rfl, rfl, rfl, rfl⟩ ?_
    clear h
    rintro n8 e7 w6 ⟨x3, x4, h, f13, f14, f15, f16, f17⟩
    replace h := hr10 n8 x3 x4 w6 h
    refine WE.seq ?_
    refine WE.reg ?_
    refine LE.p (v := (Value.bool (decide (x4 < (p0.len : Int))))) (Wn.no rfl) rfl (R.lss f17 f16) ?_
    refine LE.nil ?_
    refine WE.seq ?_
    refine WE.condT rfl (b := (decide (x4 < (p0.len : Int)))) rfl ?_ ?_
    · intro hb18
      replace h := M.ite_t h hb18
      refine WE.skip ?_
      refine WE.seq ?_
      refine WE.block ?_
      refine WE.seq ?_
      refine WE.reg ?_
      obtain ⟨a19, h20, h21, h22, h⟩ := h
      refine LE.p (v := (Value.pointer (some (a19.add (x4.toNat * 2))))) (Wn.no rfl) rfl (R.idx (s := p0) sl24 f15 f17 h20 h21 h22) ?_
      obtain ⟨t23, h24, h⟩ := h
      obtain ⟨t25, h26, h⟩ := h
      refine LE.r (v := (Value.agg #[(Value.int .i64 t23), (SV.v t25)])) (Wn.no rfl) rfl (R.ldA ag27 sz27 rfl rfl (Cs.cons h24 (Cs.cons h26 Cs.nil))) ?_
      obtain ⟨b28, hpb28, w27, hww27, h⟩ := M.new_use h
      refine LE.r (v := (Value.pointer (some b28))) (Wn.no rfl) rfl (R.alloc (cs := #[(Value.int .i64 (0 : Int)), (SV.v SV.nil)]) ze27 rfl hpb28 hww27) ?_
      obtain ⟨w29, hww29, h30, h⟩ := M.stA_use h
      refine LE.s (Wn.no rfl) rfl (R.stA (a := b28) [(Value.int .i64 t23), (SV.v t25)] sz27 rfl rfl rfl (by simp [Value.oneCell']) h30 hww29) ?_
      refine LE.nil ?_
      refine WE.seq ?_
      refine WE.reg ?_
      refine LE.p (v := (Value.pointer (some (b28.add 1)))) (Wn.no rfl) rfl (R.fld (off := 1) fa27_1 rfl) ?_
      obtain ⟨t31, h32, h⟩ := h
      refine LE.r (v := (SV.v t31)) (Wn.no rfl) rfl (R.ld sc25 rfl h32) ?_
      refine LE.p (v := (Value.int .i64 (t31.len : Int))) (Wn.no rfl) rfl (R.len sl25 rfl) ?_
      refine LE.p (v := (Value.int .i64 (0 : Int))) (Wn.no rfl) rfl (R.move rfl) ?_
      refine LE.nil ?_
      refine WE.block ?_
      obtain ⟨I39, ⟨n38, h⟩, hr40⟩ := h
      refine WE.loop (fun n e w => ∃ (x33 : Bool) (x34 : Int), I39 n x33 x34 w ∧ e 1 = (Value.int .u32 p1) ∧ e 5 = (Value.bool x33) ∧ e 10 = (SV.v p0) ∧ e 11 = (Value.int .i64 (p0.len : Int)) ∧ e 12 = (Value.int .i64 x4) ∧ e 17 = (SV.v t31) ∧ e 18 = (Value.int .i64 (t31.len : Int)) ∧ e 19 = (Value.int .i64 x34)) n38 ⟨_, _, h, f13, f14, f15, f16, f17, rfl, rfl, rfl⟩ ?_
      clear h
      rintro n38 e37 w36 ⟨x33, x34, h, f43, f44, f45, f46, f47, f48, f49, f50⟩
      replace h := hr40 n38 x33 x34 w36 h
      refine WE.seq ?_
      refine WE.reg ?_
      refine LE.p (v := (Value.bool (decide (x34 < (t31.len : Int))))) (Wn.no rfl) rfl (R.lss f50 f49) ?_
      refine LE.nil ?_
      refine WE.seq ?_
      refine WE.condT rfl (b := (decide (x34 < (t31.len : Int)))) rfl ?_ ?_
      · intro hb51
        replace h := M.ite_t h hb51
        refine WE.skip ?_
        refine WE.seq ?_
        refine WE.block ?_
        refine WE.seq ?_
        refine WE.reg ?_
        obtain ⟨a52, h53, h54, h55, h⟩ := h
        refine LE.p (v := (Value.pointer (some (a52.add (x34.toNat * 1))))) (Wn.no rfl) rfl (R.idx (s := t31) sl25 f48 f50 h53 h54 h55) ?_
        obtain ⟨t56, h57, h⟩ := h
        refine LE.r (v := (Value.int .u32 t56)) (Wn.no rfl) rfl (R.ld sc23 rfl h57) ?_
        refine LE.p (v := (Value.int .u32 t56)) (Wn.no rfl) rfl (R.assign rfl) ?_
        refine LE.nil ?_
        refine WE.seq ?_
        refine WE.reg ?_
        refine LE.p (v := (Value.int .u32 t56)) (Wn.no rfl) rfl (R.move rfl) ?_
        refine LE.p (v := (Value.int .u32 p1)) (Wn.no rfl) rfl (R.move f43) ?_
        refine LE.p (v := (Value.bool (t56 == p1))) (Wn.no rfl) rfl (R.eql rfl rfl) ?_
        refine LE.nil ?_
        refine WE.condT rfl (b := (t56 == p1)) rfl ?_ ?_
        · intro hb58
          replace h := M.ite_t h hb58
          refine WE.seq ?_
          refine WE.reg ?_
          refine LE.p (v := (Value.bool true)) (Wn.no rfl) rfl (R.assign rfl) ?_
          refine LE.nil ?_
          refine WE.exit ?_
          exact ⟨_, h, rfl⟩
        · intro hb58
          replace h := M.ite_f h hb58
          refine WE.skip ?_
          refine WE.reg ?_
          refine LE.p (v := (Value.int .i64 (IntKind.i64.wrap (x34 + (1 : Int))))) (Wn.no rfl) rfl (R.add f50 rfl) ?_
          refine LE.p (v := (Value.int .i64 (IntKind.i64.wrap (x34 + (1 : Int))))) (Wn.no rfl) rfl (R.move rfl) ?_
          refine LE.nil ?_
          obtain ⟨m41, hm42, h⟩ := h
          exact ⟨m41, hm42, _, _, h, f43, f44, f45, f46, f47, f48, f49, rfl⟩
      · intro hb51
        replace h := M.ite_f h hb51
        refine WE.exit ?_
        refine WE.reg ?_
        refine LE.p (v := (Value.int .i64 (IntKind.i64.wrap (x4 + (1 : Int))))) (Wn.no rfl) rfl (R.add f47 rfl) ?_
        refine LE.p (v := (Value.int .i64 (IntKind.i64.wrap (x4 + (1 : Int))))) (Wn.no rfl) rfl (R.move rfl) ?_
        refine LE.nil ?_
        obtain ⟨m11, hm12, h⟩ := h
        exact ⟨m11, hm12, _, _, h, f43, f44, f45, f46, rfl⟩
    · intro hb18
      replace h := M.ite_f h hb18
      refine WE.exit ?_
      exact ⟨_, h, f14⟩
  · rintro e59 w60 ⟨x2, h, f61⟩
    subst hJ1
    refine WE.seq ?_
    refine WE.reg ?_
    refine LE.p (v := (Value.bool x2)) (Wn.no rfl) rfl (R.move f61) ?_
    refine LE.p (v := (Value.bool x2)) (Wn.no rfl) rfl (R.assign rfl) ?_
    refine LE.nil ?_
    refine WE.ret ?_
    exact ⟨_, (Res.tmp rfl Res.nil), _, rfl, h⟩
/-- The formula of signpost.aspath.Less. -/
def F17 (p0 : SV) (p1 : SV) (K : Bool → World → Prop) (w0 : World) : Prop :=
Calls Try.prog 31 #[(SV.v p0), (SV.v p1)] w0 (R31 fun r1 w2 =>
K (decide (r1 < (0 : Int))) w2)
theorem F17_ok {w0 : World} {p0 : SV} {p1 : SV} {K : Bool → World → Prop} (h : F17 p0 p1 K w0) : Calls Try.prog 17 #[(SV.v p0), (SV.v p1)] w0 (R17 K) := by
  refine calls_of_WE (args := [(SV.v p0), (SV.v p1)]) (rs := [.tmp 4]) Try.func17 rfl (N := 9) rfl rfl rfl rfl ?_
  refine WE.seq ?_
  refine WE.reg ?_
  refine LE.p (v := (Value.bool false)) (Wn.no rfl) rfl (R.assign rfl) ?_
  refine LE.nil ?_
  refine WE.seq ?_
  refine WE.reg ?_
  refine LE.p (v := (SV.v p0)) (Wn.no rfl) rfl (R.move rfl) ?_
  refine LE.p (v := (SV.v p1)) (Wn.no rfl) rfl (R.move rfl) ?_
  refine LE.c (Wn.no rfl) rfl (R.call bd31 (Ls.cons rfl (Ls.cons rfl Ls.nil)) rfl) (Calls.mono h ?_)
  rintro _ w2 ⟨r1, rfl, h⟩
  refine ⟨_, rfl, ?_⟩
  refine LE.p (v := (Value.bool (decide (r1 < (0 : Int))))) (Wn.no rfl) rfl (R.lss rfl rfl) ?_
  refine LE.p (v := (Value.bool (decide (r1 < (0 : Int))))) (Wn.no rfl) rfl (R.assign rfl) ?_
  refine LE.nil ?_
  refine WE.ret ?_
  exact ⟨_, (Res.tmp rfl Res.nil), _, rfl, h⟩
/-- The formula of signpost.aspath.Same. -/
def F18 (p0 : SV) (p1 : SV) (K : Bool → World → Prop) (w0 : World) : Prop :=
Calls Try.prog 31 #[(SV.v p0), (SV.v p1)] w0 (R31 fun r1 w2 =>
K (r1 == (0 : Int)) w2)
theorem F18_ok {w0 : World} {p0 : SV} {p1 : SV} {K : Bool → World → Prop} (h : F18 p0 p1 K w0) : Calls Try.prog 18 #[(SV.v p0), (SV.v p1)] w0 (R18 K) := by
  refine calls_of_WE (args := [(SV.v p0), (SV.v p1)]) (rs := [.tmp 4]) Try.func18 rfl (N := 9) rfl rfl rfl rfl ?_
  refine WE.seq ?_
  refine WE.reg ?_
  refine LE.p (v := (Value.bool false)) (Wn.no rfl) rfl (R.assign rfl) ?_
  refine LE.nil ?_
  refine WE.seq ?_
  refine WE.reg ?_
  refine LE.p (v := (SV.v p0)) (Wn.no rfl) rfl (R.move rfl) ?_
  refine LE.p (v := (SV.v p1)) (Wn.no rfl) rfl (R.move rfl) ?_
  refine LE.c (Wn.no rfl) rfl (R.call bd31 (Ls.cons rfl (Ls.cons rfl Ls.nil)) rfl) (Calls.mono h ?_)
  rintro _ w2 ⟨r1, rfl, h⟩
  refine ⟨_, rfl, ?_⟩
  refine LE.p (v := (Value.bool (r1 == (0 : Int)))) (Wn.no rfl) rfl (R.eql rfl rfl) ?_
  refine LE.p (v := (Value.bool (r1 == (0 : Int)))) (Wn.no rfl) rfl (R.assign rfl) ?_
  refine LE.nil ?_
  refine WE.ret ?_
  exact ⟨_, (Res.tmp rfl Res.nil), _, rfl, h⟩
/-- The formula of signpost.aspath.Encode. -/
def F19 (p0 : SV) (K : SV → Int → World → Prop) (w0 : World) : Prop :=
Calls Try.prog 12 #[(SV.v p0)] w0 (R12 fun r1 w2 =>
M.ite (!r1) (
K SV.nil (12 : Int) w2) (
Calls Try.prog 32 #[] w2 (R32 fun r4 w5 =>
M.loop1 (fun (J7 : Int → World → Prop) (x6 : Int) (w8 : World) => 
M.ite (decide (x6 < (p0.len : Int))) (
M.idx p0 x6 2 fun a20 =>
M.ld (Value.int .i64) (a20.add (x6.toNat * 2)) w8 fun t24 =>
M.ld SV.v ((a20.add (x6.toNat * 2)).add 1) w8 fun t26 =>
M.new (.cells #[(Value.int .i64 (0 : Int)), (SV.v SV.nil)] 27) w8 fun b29 w28 =>
M.stA b29 [(Value.int .i64 t24), (SV.v t26)] w28 fun w30 =>
M.ld (Value.int .i64) b29 w30 fun t32 =>
Calls Try.prog 33 #[(Value.pointer r4), (Value.int .i64 t32)] w30 (R33 fun w34 =>
M.ld SV.v (b29.add 1) w34 fun t35 =>
Calls Try.prog 33 #[(Value.pointer r4), (Value.int .i64 (t35.len : Int))] w34 (R33 fun w37 =>
M.ld SV.v (b29.add 1) w37 fun t38 =>
M.loop1 (fun (J41 : Int → World → Prop) (x40 : Int) (w42 : World) => 
M.ite (decide (x40 < (t38.len : Int))) (
M.idx t38 x40 1 fun a57 =>
M.ld (Value.int .u32) (a57.add (x40.toNat * 1)) w42 fun t61 =>
Calls Try.prog 34 #[(Value.pointer r4), (Value.int .u32 t61)] w42 (R34 fun w63 =>
J41 (IntKind.i64.wrap (x40 + (1 : Int))) w63)) (
J7 (IntKind.i64.wrap (x6 + (1 : Int))) w42)) (0 : Int) w37))) (
Calls Try.prog 35 #[(Value.pointer r4)] w8 (R35 fun r64 w65 =>
K r64 (0 : Int) w65))) (0 : Int) w5)))
theorem F19_ok {w0 : World} {p0 : SV} {K : SV → Int → World → Prop} (h : F19 p0 K w0) : Calls Try.prog 19 #[(SV.v p0)] w0 (R19 K) := by
  refine calls_of_WE (args := [(SV.v p0)]) (rs := [.tmp 2, .tmp 3]) Try.func19 rfl (N := 42) rfl rfl rfl rfl ?_
  refine WE.seq ?_
  refine WE.reg ?_
  refine LE.p (v := (SV.v SV.nil)) (Wn.no rfl) rfl (R.assign rfl) ?_
  refine LE.p (v := (Value.int .i64 (0 : Int))) (Wn.no rfl) rfl (R.assign rfl) ?_
  refine LE.nil ?_
  refine WE.seq ?_
  refine WE.seq ?_
  refine WE.reg ?_
  refine LE.p (v := (SV.v p0)) (Wn.no rfl) rfl (R.move rfl) ?_
  refine LE.c (Wn.no rfl) rfl (R.call bd12 (Ls.cons rfl Ls.nil) rfl) (Calls.mono h ?_)
  rintro _ w2 ⟨r1, rfl, h⟩
  refine ⟨_, rfl, ?_⟩
  refine LE.p (v := (Value.bool (!r1))) (Wn.no rfl) rfl (R.not rfl) ?_
  refine LE.nil ?_
  refine WE.condT rfl (b := (!r1)) rfl ?_ ?_
  · intro hb3
    replace h := M.ite_t h hb3
    refine WE.seq ?_
    refine WE.reg ?_
    refine LE.p (v := (SV.v SV.nil)) (Wn.no rfl) rfl (R.assign rfl) ?_
    refine LE.p (v := (Value.int .i64 (12 : Int))) (Wn.no rfl) rfl (R.assign rfl) ?_
    refine LE.nil ?_
    refine WE.ret ?_
    exact ⟨_, (Res.tmp rfl (Res.tmp rfl Res.nil)), _, _, rfl, h⟩
  · intro hb3
    replace h := M.ite_f h hb3
    refine WE.skip ?_
    refine WE.seq ?_
    refine WE.reg ?_
    refine LE.c (Wn.no rfl) rfl (R.call bd32 Ls.nil rfl) (Calls.mono h ?_)
    rintro _ w5 ⟨r4, rfl, h⟩
    refine ⟨_, rfl, ?_⟩
    refine LE.p (v := (Value.pointer r4)) (Wn.no rfl) rfl (R.assign rfl) ?_
    refine LE.nil ?_
    refine WE.seq ?_
    refine WE.seq ?_
    refine WE.reg ?_
    refine LE.p (v := (SV.v p0)) (Wn.no rfl) rfl (R.move rfl) ?_
    refine LE.p (v := (Value.int .i64 (p0.len : Int))) (Wn.no rfl) rfl (R.len sl24 rfl) ?_
    refine LE.p (v := (Value.int .i64 (0 : Int))) (Wn.no rfl) rfl (R.move rfl) ?_
    refine LE.nil ?_
    refine WE.block ?_
    obtain ⟨I11, ⟨n10, h⟩, hr12⟩ := h
    refine WE.loop (fun n e w => ∃ (x6 : Int), I11 n x6 w ∧ e 4 = (Value.pointer r4) ∧ e 13 = (SV.v p0) ∧ e 14 = (Value.int .i64 (p0.len : Int)) ∧ e 15 = (Value.int .i64 x6)) n10 ⟨_, h, rfl, rfl, rfl, rfl⟩ ?_
    clear h
    rintro n10 e9 w8 ⟨x6, h, f15, f16, f17, f18⟩
    replace h := hr12 n10 x6 w8 h
    refine WE.seq ?_
    refine WE.reg ?_
    refine LE.p (v := (Value.bool (decide (x6 < (p0.len : Int))))) (Wn.no rfl) rfl (R.lss f18 f17) ?_
    refine LE.nil ?_
    refine WE.seq ?_
    refine WE.condT rfl (b := (decide (x6 < (p0.len : Int)))) rfl ?_ ?_
    · intro hb19
      replace h := M.ite_t h hb19
      refine WE.skip ?_
      refine WE.seq ?_
      refine WE.block ?_
      refine WE.seq ?_
      refine WE.reg ?_
      obtain ⟨a20, h21, h22, h23, h⟩ := h
      refine LE.p (v := (Value.pointer (some (a20.add (x6.toNat * 2))))) (Wn.no rfl) rfl (R.idx (s := p0) sl24 f16 f18 h21 h22 h23) ?_
      obtain ⟨t24, h25, h⟩ := h
      obtain ⟨t26, h27, h⟩ := h
      refine LE.r (v := (Value.agg #[(Value.int .i64 t24), (SV.v t26)])) (Wn.no rfl) rfl (R.ldA ag27 sz27 rfl rfl (Cs.cons h25 (Cs.cons h27 Cs.nil))) ?_
      obtain ⟨b29, hpb29, w28, hww28, h⟩ := M.new_use h
      refine LE.r (v := (Value.pointer (some b29))) (Wn.no rfl) rfl (R.alloc (cs := #[(Value.int .i64 (0 : Int)), (SV.v SV.nil)]) ze27 rfl hpb29 hww28) ?_
      obtain ⟨w30, hww30, h31, h⟩ := M.stA_use h
      refine LE.s (Wn.no rfl) rfl (R.stA (a := b29) [(Value.int .i64 t24), (SV.v t26)] sz27 rfl rfl rfl (by simp [Value.oneCell']) h31 hww30) ?_
      refine LE.nil ?_
      refine WE.seq ?_
      refine WE.reg ?_
      refine LE.p (v := (Value.pointer r4)) (Wn.no rfl) rfl (R.move f15) ?_
      refine LE.p (v := (Value.pointer (some b29))) (Wn.no rfl) rfl (R.fld (off := 0) fa27_0 rfl) ?_
      obtain ⟨t32, h33, h⟩ := h
      refine LE.r (v := (Value.int .i64 t32)) (Wn.no rfl) rfl (R.ld sc3 rfl h33) ?_
      refine LE.c (Wn.no rfl) rfl (R.call bd33 (Ls.cons rfl (Ls.cons rfl Ls.nil)) rfl) (Calls.mono h ?_)
      rintro _ w34 ⟨rfl, h⟩
      refine ⟨_, rfl, ?_⟩
      refine LE.nil ?_
      refine WE.seq ?_
      refine WE.reg ?_
      refine LE.p (v := (Value.pointer r4)) (Wn.no rfl) rfl (R.move f15) ?_
      refine LE.p (v := (Value.pointer (some (b29.add 1)))) (Wn.no rfl) rfl (R.fld (off := 1) fa27_1 rfl) ?_
      obtain ⟨t35, h36, h⟩ := h
      refine LE.r (v := (SV.v t35)) (Wn.no rfl) rfl (R.ld sc25 rfl h36) ?_
      refine LE.p (v := (Value.int .i64 (t35.len : Int))) (Wn.no rfl) rfl (R.len sl25 rfl) ?_
      refine LE.c (Wn.no rfl) rfl (R.call bd33 (Ls.cons rfl (Ls.cons rfl Ls.nil)) rfl) (Calls.mono h ?_)
      rintro _ w37 ⟨rfl, h⟩
      refine ⟨_, rfl, ?_⟩
      refine LE.nil ?_
      refine WE.seq ?_
      refine WE.reg ?_
      refine LE.p (v := (Value.pointer (some (b29.add 1)))) (Wn.no rfl) rfl (R.fld (off := 1) fa27_1 rfl) ?_
      obtain ⟨t38, h39, h⟩ := h
      refine LE.r (v := (SV.v t38)) (Wn.no rfl) rfl (R.ld sc25 rfl h39) ?_
      refine LE.p (v := (Value.int .i64 (t38.len : Int))) (Wn.no rfl) rfl (R.len sl25 rfl) ?_
      refine LE.p (v := (Value.int .i64 (0 : Int))) (Wn.no rfl) rfl (R.move rfl) ?_
      refine LE.nil ?_
      refine WE.block ?_
      obtain ⟨I45, ⟨n44, h⟩, hr46⟩ := h
      refine WE.loop (fun n e w => ∃ (x40 : Int), I45 n x40 w ∧ e 4 = (Value.pointer r4) ∧ e 13 = (SV.v p0) ∧ e 14 = (Value.int .i64 (p0.len : Int)) ∧ e 15 = (Value.int .i64 x6) ∧ e 29 = (SV.v t38) ∧ e 30 = (Value.int .i64 (t38.len : Int)) ∧ e 31 = (Value.int .i64 x40)) n44 ⟨_, h, f15, f16, f17, f18, rfl, rfl, rfl⟩ ?_
      clear h
      rintro n44 e43 w42 ⟨x40, h, f49, f50, f51, f52, f53, f54, f55⟩
      replace h := hr46 n44 x40 w42 h
      refine WE.seq ?_
      refine WE.reg ?_
      refine LE.p (v := (Value.bool (decide (x40 < (t38.len : Int))))) (Wn.no rfl) rfl (R.lss f55 f54) ?_
      refine LE.nil ?_
      refine WE.seq ?_
      refine WE.condT rfl (b := (decide (x40 < (t38.len : Int)))) rfl ?_ ?_
      · intro hb56
        replace h := M.ite_t h hb56
        refine WE.skip ?_
        refine WE.seq ?_
        refine WE.block ?_
        refine WE.seq ?_
        refine WE.reg ?_
        obtain ⟨a57, h58, h59, h60, h⟩ := h
        refine LE.p (v := (Value.pointer (some (a57.add (x40.toNat * 1))))) (Wn.no rfl) rfl (R.idx (s := t38) sl25 f53 f55 h58 h59 h60) ?_
        obtain ⟨t61, h62, h⟩ := h
        refine LE.r (v := (Value.int .u32 t61)) (Wn.no rfl) rfl (R.ld sc23 rfl h62) ?_
        refine LE.p (v := (Value.int .u32 t61)) (Wn.no rfl) rfl (R.assign rfl) ?_
        refine LE.nil ?_
        refine WE.reg ?_
        refine LE.p (v := (Value.pointer r4)) (Wn.no rfl) rfl (R.move f49) ?_
        refine LE.p (v := (Value.int .u32 t61)) (Wn.no rfl) rfl (R.move rfl) ?_
        refine LE.c (Wn.no rfl) rfl (R.call bd34 (Ls.cons rfl (Ls.cons rfl Ls.nil)) rfl) (Calls.mono h ?_)
        rintro _ w63 ⟨rfl, h⟩
        refine ⟨_, rfl, ?_⟩
        refine LE.nil ?_
        refine WE.reg ?_
        refine LE.p (v := (Value.int .i64 (IntKind.i64.wrap (x40 + (1 : Int))))) (Wn.no rfl) rfl (R.add f55 rfl) ?_
        refine LE.p (v := (Value.int .i64 (IntKind.i64.wrap (x40 + (1 : Int))))) (Wn.no rfl) rfl (R.move rfl) ?_
        refine LE.nil ?_
        obtain ⟨m47, hm48, h⟩ := h
        exact ⟨m47, hm48, _, h, f49, f50, f51, f52, f53, f54, rfl⟩
      · intro hb56
        replace h := M.ite_f h hb56
        refine WE.exit ?_
        refine WE.reg ?_
        refine LE.p (v := (Value.int .i64 (IntKind.i64.wrap (x6 + (1 : Int))))) (Wn.no rfl) rfl (R.add f52 rfl) ?_
        refine LE.p (v := (Value.int .i64 (IntKind.i64.wrap (x6 + (1 : Int))))) (Wn.no rfl) rfl (R.move rfl) ?_
        refine LE.nil ?_
        obtain ⟨m13, hm14, h⟩ := h
        exact ⟨m13, hm14, _, h, f49, f50, f51, rfl⟩
    · intro hb19
      replace h := M.ite_f h hb19
      refine WE.exit ?_
      refine WE.seq ?_
      refine WE.reg ?_
      refine LE.p (v := (Value.pointer r4)) (Wn.no rfl) rfl (R.move f15) ?_
      refine LE.c (Wn.no rfl) rfl (R.call bd35 (Ls.cons rfl Ls.nil) rfl) (Calls.mono h ?_)
      rintro _ w65 ⟨r64, rfl, h⟩
      refine ⟨_, rfl, ?_⟩
      refine LE.p (v := (SV.v r64)) (Wn.no rfl) rfl (R.assign rfl) ?_
      refine LE.p (v := (Value.int .i64 (0 : Int))) (Wn.no rfl) rfl (R.assign rfl) ?_
      refine LE.nil ?_
      refine WE.ret ?_
      exact ⟨_, (Res.tmp rfl (Res.tmp rfl Res.nil)), _, _, rfl, h⟩
/-- The formula of signpost.aspath.Decode. -/
def F20 (p0 : SV) (K : SV → Bool → World → Prop) (w0 : World) : Prop :=
Calls Try.prog 36 #[(SV.v p0)] w0 (R36 fun r1 w2 =>
M.loop1 (fun (J4 : SV → World → Prop) (x3 : SV) (w5 : World) => 
Calls Try.prog 37 #[(Value.pointer r1)] w5 (R37 fun r14 w15 =>
M.ite (decide ((0 : Int) < r14)) (
Calls Try.prog 38 #[(Value.pointer r1)] w15 (R38 fun r17 w18 =>
M.new (.cells #[(Value.int .i64 (0 : Int)), (SV.v SV.nil)] 27) w18 fun b20 w19 =>
M.stA b20 [(Value.int .i64 r17), (SV.v SV.nil)] w19 fun w21 =>
Calls Try.prog 38 #[(Value.pointer r1)] w21 (R38 fun r23 w24 =>
Calls Try.prog 37 #[(Value.pointer r1)] w24 (R37 fun r25 w26 =>
M.ite (decide (r25 < (IntKind.i64.wrap (r23 * (4 : Int))))) (
K SV.nil false w26) (
M.loop1 (fun (J29 : Int → World → Prop) (x28 : Int) (w30 : World) => 
M.ite (decide (x28 < r23)) (
M.drew w30 fun w43 => 
M.ld SV.v (b20.add 1) w43 fun t44 =>
Calls Try.prog 39 #[(Value.pointer r1)] w43 (R39 fun r46 w47 =>
M.keep (w47.cell? (b20.add 1) = some (SV.v t44)) <|
M.new (.cells #[(Value.int .u32 r46)] 23) w47 fun b51 w49 =>
M.keep (w49.cell? (b20.add 1) = some (SV.v t44)) <|
M.app Try.prog 25 25 25 t44 (SV.v (SV.mk (some b51) 1 1)) w49 fun s53 w54 =>
M.st (b20.add 1) (SV.v s53) w54 fun w56 =>
J29 (IntKind.i64.wrap (x28 + (1 : Int))) w56)) (
M.ld (Value.int .i64) b20 w30 fun t59 =>
M.ld SV.v (b20.add 1) w30 fun t61 =>
M.new (.cells #[(Value.int .i64 t59), (SV.v t61)] 27) w30 fun b65 w63 =>
M.app Try.prog 24 24 24 x3 (SV.v (SV.mk (some b65) 1 1)) w63 fun s66 w67 =>
J4 s66 w67)) (0 : Int) w26))))) (
M.join (fun (x70 : Bool) (w77 : World) => 
M.ite x70 (
K SV.nil false w77) (
K x3 true w77)) fun J69 => 
Calls Try.prog 40 #[(Value.pointer r1)] w15 (R40 fun r71 w72 =>
M.ite (!r71) (
J69 true w72) (
Calls Try.prog 12 #[(SV.v x3)] w72 (R12 fun r74 w75 =>
J69 (!r74) w75)))))) SV.nil w2)
theorem F20_ok {w0 : World} {p0 : SV} {K : SV → Bool → World → Prop} (h : F20 p0 K w0) : Calls Try.prog 20 #[(SV.v p0)] w0 (R20 K) := by
  refine calls_of_WE (args := [(SV.v p0)]) (rs := [.tmp 2, .tmp 3]) Try.func20 rfl (N := 47) rfl rfl rfl rfl ?_
  refine WE.seq ?_
  refine WE.reg ?_
  refine LE.p (v := (SV.v SV.nil)) (Wn.no rfl) rfl (R.assign rfl) ?_
  refine LE.p (v := (Value.bool false)) (Wn.no rfl) rfl (R.assign rfl) ?_
  refine LE.nil ?_
  refine WE.seq ?_
  refine WE.reg ?_
  refine LE.p (v := (SV.v p0)) (Wn.no rfl) rfl (R.move rfl) ?_
  refine LE.c (Wn.no rfl) rfl (R.call bd36 (Ls.cons rfl Ls.nil) rfl) (Calls.mono h ?_)
  rintro _ w2 ⟨r1, rfl, h⟩
  refine ⟨_, rfl, ?_⟩
  refine LE.p (v := (Value.pointer r1)) (Wn.no rfl) rfl (R.assign rfl) ?_
  refine LE.nil ?_
  refine WE.seq ?_
  refine WE.reg ?_
  refine LE.p (v := (SV.v SV.nil)) (Wn.no rfl) rfl (R.assign rfl) ?_
  refine LE.nil ?_
  refine WE.seq ?_
  refine WE.block ?_
  obtain ⟨I8, ⟨n7, h⟩, hr9⟩ := h
  refine WE.loop (fun n e w => ∃ (x3 : SV), I8 n x3 w ∧ e 4 = (Value.pointer r1) ∧ e 5 = (SV.v x3)) n7 ⟨_, h, rfl, rfl⟩ ?_
  clear h
  rintro n7 e6 w5 ⟨x3, h, f12, f13⟩
  replace h := hr9 n7 x3 w5 h
  refine WE.seq ?_
  refine WE.seq ?_
  refine WE.reg ?_
  refine LE.p (v := (Value.pointer r1)) (Wn.no rfl) rfl (R.move f12) ?_
  refine LE.c (Wn.no rfl) rfl (R.call bd37 (Ls.cons rfl Ls.nil) rfl) (Calls.mono h ?_)
  rintro _ w15 ⟨r14, rfl, h⟩
  refine ⟨_, rfl, ?_⟩
  refine LE.p (v := (Value.bool (decide ((0 : Int) < r14)))) (Wn.no rfl) rfl (R.gtr rfl rfl) ?_
  refine LE.nil ?_
  refine WE.condT rfl (b := (decide ((0 : Int) < r14))) rfl ?_ ?_
  · intro hb16
    replace h := M.ite_t h hb16
    refine WE.skip ?_
    refine WE.block ?_
    refine WE.seq ?_
    refine WE.reg ?_
    refine LE.p (v := (Value.pointer r1)) (Wn.no rfl) rfl (R.move f12) ?_
    refine LE.c (Wn.no rfl) rfl (R.call bd38 (Ls.cons rfl Ls.nil) rfl) (Calls.mono h ?_)
    rintro _ w18 ⟨r17, rfl, h⟩
    refine ⟨_, rfl, ?_⟩
    refine LE.p (v := (Value.agg #[(Value.int .i64 r17), (SV.v SV.nil)])) (Wn.no rfl) rfl (R.bld (by exact (Ls.cons (R.Pr rfl) Ls.nil)) (fun w => bu27_0 r17 w)) ?_
    obtain ⟨b20, hpb20, w19, hww19, h⟩ := M.new_use h
    refine LE.r (v := (Value.pointer (some b20))) (Wn.no rfl) rfl (R.alloc (cs := #[(Value.int .i64 (0 : Int)), (SV.v SV.nil)]) ze27 rfl hpb20 hww19) ?_
    obtain ⟨w21, hww21, h22, h⟩ := M.stA_use h
    refine LE.s (Wn.no rfl) rfl (R.stA (a := b20) [(Value.int .i64 r17), (SV.v SV.nil)] sz27 rfl rfl rfl (by simp [Value.oneCell']) h22 hww21) ?_
    refine LE.nil ?_
    refine WE.seq ?_
    refine WE.reg ?_
    refine LE.p (v := (Value.pointer r1)) (Wn.no rfl) rfl (R.move f12) ?_
    refine LE.c (Wn.no rfl) rfl (R.call bd38 (Ls.cons rfl Ls.nil) rfl) (Calls.mono h ?_)
    rintro _ w24 ⟨r23, rfl, h⟩
    refine ⟨_, rfl, ?_⟩
    refine LE.p (v := (Value.int .i64 r23)) (Wn.no rfl) rfl (R.assign rfl) ?_
    refine LE.nil ?_
    refine WE.seq ?_
    refine WE.seq ?_
    refine WE.reg ?_
    refine LE.p (v := (Value.int .i64 r23)) (Wn.no rfl) rfl (R.move rfl) ?_
    refine LE.p (v := (Value.int .i64 (IntKind.i64.wrap (r23 * (4 : Int))))) (Wn.no rfl) rfl (R.mul rfl rfl) ?_
    refine LE.p (v := (Value.pointer r1)) (Wn.no rfl) rfl (R.move f12) ?_
    refine LE.c (Wn.no rfl) rfl (R.call bd37 (Ls.cons rfl Ls.nil) rfl) (Calls.mono h ?_)
    rintro _ w26 ⟨r25, rfl, h⟩
    refine ⟨_, rfl, ?_⟩
    refine LE.p (v := (Value.bool (decide (r25 < (IntKind.i64.wrap (r23 * (4 : Int))))))) (Wn.no rfl) rfl (R.gtr rfl rfl) ?_
    refine LE.nil ?_
    refine WE.condT rfl (b := (decide (r25 < (IntKind.i64.wrap (r23 * (4 : Int)))))) rfl ?_ ?_
    · intro hb27
      replace h := M.ite_t h hb27
      refine WE.seq ?_
      refine WE.reg ?_
      refine LE.p (v := (SV.v SV.nil)) (Wn.no rfl) rfl (R.assign rfl) ?_
      refine LE.p (v := (Value.bool false)) (Wn.no rfl) rfl (R.assign rfl) ?_
      refine LE.nil ?_
      refine WE.ret ?_
      exact ⟨_, (Res.tmp rfl (Res.tmp rfl Res.nil)), _, _, rfl, h⟩
    · intro hb27
      replace h := M.ite_f h hb27
      refine WE.skip ?_
      refine WE.seq ?_
      refine WE.seq ?_
      refine WE.reg ?_
      refine LE.p (v := (Value.int .i64 r23)) (Wn.no rfl) rfl (R.move rfl) ?_
      refine LE.p (v := (Value.int .i64 (0 : Int))) (Wn.no rfl) rfl (R.move rfl) ?_
      refine LE.nil ?_
      refine WE.block ?_
      obtain ⟨I33, ⟨n32, h⟩, hr34⟩ := h
      refine WE.loop (fun n e w => ∃ (x28 : Int), I33 n x28 w ∧ e 4 = (Value.pointer r1) ∧ e 5 = (SV.v x3) ∧ e 6 = (Value.pointer (some b20)) ∧ e 23 = (Value.int .i64 r23) ∧ e 24 = (Value.int .i64 x28)) n32 ⟨_, h, f12, f13, rfl, rfl, rfl⟩ ?_
      clear h
      rintro n32 e31 w30 ⟨x28, h, f37, f38, f39, f40, f41⟩
      replace h := hr34 n32 x28 w30 h
      refine WE.seq ?_
      refine WE.reg ?_
      refine LE.p (v := (Value.bool (decide (x28 < r23)))) (Wn.no rfl) rfl (R.lss f41 f40) ?_
      refine LE.nil ?_
      refine WE.seq ?_
      refine WE.condT rfl (b := (decide (x28 < r23))) rfl ?_ ?_
      · intro hb42
        replace h := M.ite_t h hb42
        refine WE.skip ?_
        refine WE.seq ?_
        refine WE.block ?_
        refine WE.draw mix ?_
        obtain ⟨w43, hww43, h⟩ := M.drew_use h
        rw [← hww43]
        clear hww43
        refine DE.t 0 (v := (Value.pointer (some (b20.add 1)))) rfl (by kernel_rfl) (Wn.no rfl) rfl (R.fld (off := 1) fa27_1 f39) ?_
        refine DE.t 2 (v := (Value.pointer r1)) rfl (by kernel_rfl) (Wn.no rfl) rfl (R.move f37) ?_
        obtain ⟨t44, h45, h⟩ := h
        refine DE.hold 1 (fun w => w.cell? (b20.add 1) = some (SV.v t44)) (v := (SV.v t44)) rfl (by kernel_rfl) (Wn.no rfl) rfl h45 (fun w hs => R.ld sc25 rfl hs) ?_
        refine DE.main 3 (by kernel_rfl) ?_
        refine One.c 3 rfl (Wn.no rfl) rfl (R.call bd39 (Ls.cons rfl Ls.nil) rfl) (Calls.mono h ?_)
        rintro _ w47 ⟨r46, rfl, h⟩
        obtain ⟨k48, h⟩ := h
        refine ⟨_, rfl, ⟨fun _ => k48, trivial⟩, ?_⟩
        obtain ⟨b51, hpb51, w49, hww49, h⟩ := M.new_use h
        obtain ⟨k52, h⟩ := h
        refine DE.main 4 (by kernel_rfl) ?_
        refine One.r 4 (v := (SV.v (SV.mk (some b51) 1 1))) rfl (Wn.no rfl) rfl (R.bsl (by exact (Ls.cons (R.Pr rfl) Ls.nil)) (fun w => bs25_1 r46 w) hpb51 hww49) (.inr ⟨fun _ => k52, trivial⟩) ?_
        obtain ⟨s53, w54, h55, h⟩ := h
        refine DE.main 5 (by kernel_rfl) ?_
        refine One.r 5 (v := (SV.v s53)) rfl (Wn.no rfl) rfl (R.app (s := t44) (r := s53) rfl rfl h55) (.inr ⟨aftT (by kernel_rfl), trivial⟩) ?_
        refine DE.t 6 (v := (Value.pointer (some (b20.add 1)))) rfl (by kernel_rfl) (Wn.no rfl) rfl (R.fld (off := 1) fa27_1 f39) ?_
        obtain ⟨w56, hww56, h57, h58, h⟩ := M.st_use h
        refine DE.main 7 (by kernel_rfl) ?_
        refine One.s 7 rfl (Wn.no rfl) rfl (R.st (a := (b20.add 1)) (v := (SV.v s53)) sz25 rfl rfl rfl rfl h57 h58 hww56) ⟨aftT (by kernel_rfl), trivial⟩ ?_
        refine DE.done (by kernel_rfl) ?_
        refine WE.reg ?_
        refine LE.p (v := (Value.int .i64 (IntKind.i64.wrap (x28 + (1 : Int))))) (Wn.no rfl) rfl (R.add f41 rfl) ?_
        refine LE.p (v := (Value.int .i64 (IntKind.i64.wrap (x28 + (1 : Int))))) (Wn.no rfl) rfl (R.move rfl) ?_
        refine LE.nil ?_
        obtain ⟨m35, hm36, h⟩ := h
        exact ⟨m35, hm36, _, h, f37, f38, f39, f40, rfl⟩
      · intro hb42
        replace h := M.ite_f h hb42
        refine WE.exit ?_
        refine WE.reg ?_
        refine LE.p (v := (SV.v x3)) (Wn.no rfl) rfl (R.move f38) ?_
        obtain ⟨t59, h60, h⟩ := h
        obtain ⟨t61, h62, h⟩ := h
        refine LE.r (v := (Value.agg #[(Value.int .i64 t59), (SV.v t61)])) (Wn.no rfl) rfl (R.ldA ag27 sz27 f39 rfl (Cs.cons h60 (Cs.cons h62 Cs.nil))) ?_
        obtain ⟨b65, hpb65, w63, hww63, h⟩ := M.new_use h
        refine LE.r (v := (SV.v (SV.mk (some b65) 1 1))) (Wn.no rfl) rfl (R.bsl (by exact (Ls.cons (R.Pr rfl) Ls.nil)) (fun w => bs24_1 t59 t61 w) hpb65 hww63) ?_
        obtain ⟨s66, w67, h68, h⟩ := h
        refine LE.r (v := (SV.v s66)) (Wn.no rfl) rfl (R.app (s := x3) (r := s66) rfl rfl h68) ?_
        refine LE.p (v := (SV.v s66)) (Wn.no rfl) rfl (R.assign rfl) ?_
        refine LE.nil ?_
        obtain ⟨m10, hm11, h⟩ := h
        exact ⟨m10, hm11, _, h, f37, rfl⟩
  · intro hb16
    replace h := M.ite_f h hb16
    refine WE.exit ?_
    refine WE.seq ?_
    refine WE.seq ?_
    obtain ⟨J69, hJ69, h⟩ := M.join_use h
    refine WE.regJ (fun e w => ∃ (x70 : Bool), J69 x70 w ∧ e 5 = (SV.v x3) ∧ e 45 = (Value.bool x70)) ?_ ?_
    · clear hJ69
      refine LE.p (v := (Value.pointer r1)) (Wn.no rfl) rfl (R.move f12) ?_
      refine LE.c (Wn.no rfl) rfl (R.call bd40 (Ls.cons rfl Ls.nil) rfl) (Calls.mono h ?_)
      rintro _ w72 ⟨r71, rfl, h⟩
      refine ⟨_, rfl, ?_⟩
      refine LE.p (v := (Value.bool (!r71))) (Wn.no rfl) rfl (R.not rfl) ?_
      refine LE.p (v := (Value.bool (!r71))) (Wn.no rfl) rfl (R.move rfl) ?_
      rcases M.ite_use h with ⟨hb73, h⟩ | ⟨hb73, h⟩
      · refine LE.u (Un.no 3 41 false rfl rfl rfl (congrArg Value.bool hb73)) ?_
        refine LE.u (Un.no 3 41 false rfl rfl rfl (congrArg Value.bool hb73)) ?_
        refine LE.u (Un.no 3 41 false rfl rfl rfl (congrArg Value.bool hb73)) ?_
        refine LE.p (v := (Value.bool true)) (Wn.no rfl) rfl (R.pickT (congrArg Value.bool hb73) rfl) ?_
        refine LE.nil ?_
        exact ⟨_, h, f13, rfl⟩
      · refine LE.p (v := (SV.v x3)) (Wn.yes 3 41 false rfl rfl rfl (congrArg Value.bool hb73)) rfl (R.move f13) ?_
        refine LE.c (Wn.yes 3 41 false rfl rfl rfl (congrArg Value.bool hb73)) rfl (R.call bd12 (Ls.cons rfl Ls.nil) rfl) (Calls.mono h ?_)
        rintro _ w75 ⟨r74, rfl, h⟩
        refine ⟨_, rfl, ?_⟩
        refine LE.p (v := (Value.bool (!r74))) (Wn.yes 3 41 false rfl rfl rfl (congrArg Value.bool hb73)) rfl (R.not rfl) ?_
        refine LE.p (v := (Value.bool (!r74))) (Wn.no rfl) rfl (R.pickF (congrArg Value.bool hb73) rfl) ?_
        refine LE.nil ?_
        exact ⟨_, h, f13, rfl⟩
    · rintro e76 w77 ⟨x70, h, f78, f79⟩
      subst hJ69
      refine WE.condT rfl (b := x70) f79 ?_ ?_
      · intro hb80
        replace h := M.ite_t h hb80
        refine WE.seq ?_
        refine WE.reg ?_
        refine LE.p (v := (SV.v SV.nil)) (Wn.no rfl) rfl (R.assign rfl) ?_
        refine LE.p (v := (Value.bool false)) (Wn.no rfl) rfl (R.assign rfl) ?_
        refine LE.nil ?_
        refine WE.ret ?_
        exact ⟨_, (Res.tmp rfl (Res.tmp rfl Res.nil)), _, _, rfl, h⟩
      · intro hb80
        replace h := M.ite_f h hb80
        refine WE.skip ?_
        refine WE.seq ?_
        refine WE.reg ?_
        refine LE.p (v := (SV.v x3)) (Wn.no rfl) rfl (R.move f78) ?_
        refine LE.p (v := (SV.v x3)) (Wn.no rfl) rfl (R.assign rfl) ?_
        refine LE.p (v := (Value.bool true)) (Wn.no rfl) rfl (R.assign rfl) ?_
        refine LE.nil ?_
        refine WE.ret ?_
        exact ⟨_, (Res.tmp rfl (Res.tmp rfl Res.nil)), _, _, rfl, h⟩
/-- The formula of signpost.signpostlaw6.segs. -/
def F21 (p0 : SV) (p1 : SV) (K : Bool → World → Prop) (w0 : World) : Prop :=
Calls Try.prog 41 #[(SV.v p0), (SV.v p1)] w0 (R41 fun r1 w2 =>
K (r1 == (0 : Int)) w2)
theorem F21_ok {w0 : World} {p0 : SV} {p1 : SV} {K : Bool → World → Prop} (h : F21 p0 p1 K w0) : Calls Try.prog 21 #[(SV.v p0), (SV.v p1)] w0 (R21 K) := by
  refine calls_of_WE (args := [(SV.v p0), (SV.v p1)]) (rs := [.tmp 4]) Try.func21 rfl (N := 9) rfl rfl rfl rfl ?_
  refine WE.seq ?_
  refine WE.reg ?_
  refine LE.p (v := (Value.bool false)) (Wn.no rfl) rfl (R.assign rfl) ?_
  refine LE.nil ?_
  refine WE.seq ?_
  refine WE.reg ?_
  refine LE.p (v := (SV.v p0)) (Wn.no rfl) rfl (R.move rfl) ?_
  refine LE.p (v := (SV.v p1)) (Wn.no rfl) rfl (R.move rfl) ?_
  refine LE.c (Wn.no rfl) rfl (R.call bd41 (Ls.cons rfl (Ls.cons rfl Ls.nil)) rfl) (Calls.mono h ?_)
  rintro _ w2 ⟨r1, rfl, h⟩
  refine ⟨_, rfl, ?_⟩
  refine LE.p (v := (Value.bool (r1 == (0 : Int)))) (Wn.no rfl) rfl (R.eql rfl rfl) ?_
  refine LE.p (v := (Value.bool (r1 == (0 : Int)))) (Wn.no rfl) rfl (R.assign rfl) ?_
  refine LE.nil ?_
  refine WE.ret ?_
  exact ⟨_, (Res.tmp rfl Res.nil), _, rfl, h⟩
/-- The formula of signpost.signpostkeep.Cut. -/
def F22 (p0 : SV) (p1 : Int) (K : SV → World → Prop) (w0 : World) : Prop :=
M.ite (decide (p1 < (p0.len : Int))) (
M.bnd (0 : Int) p1 p0 <|
K (SV.sub p0 (Int.toNat (0 : Int)) (Int.toNat p1) 1) w0) (
K p0 w0)
theorem F22_ok {w0 : World} {p0 : SV} {p1 : Int} {K : SV → World → Prop} (h : F22 p0 p1 K w0) : Calls Try.prog 22 #[(SV.v p0), (Value.int .i64 p1)] w0 (R22 K) := by
  refine calls_of_WE (args := [(SV.v p0), (Value.int .i64 p1)]) (rs := [.tmp 4]) Try.func22 rfl (N := 13) rfl rfl rfl rfl ?_
  refine WE.seq ?_
  refine WE.reg ?_
  refine LE.p (v := (SV.v SV.nil)) (Wn.no rfl) rfl (R.assign rfl) ?_
  refine LE.nil ?_
  refine WE.seq ?_
  refine WE.seq ?_
  refine WE.reg ?_
  refine LE.p (v := (SV.v p0)) (Wn.no rfl) rfl (R.move rfl) ?_
  refine LE.p (v := (Value.int .i64 (p0.len : Int))) (Wn.no rfl) rfl (R.len sl40 rfl) ?_
  refine LE.p (v := (Value.int .i64 p1)) (Wn.no rfl) rfl (R.move rfl) ?_
  refine LE.p (v := (Value.bool (decide (p1 < (p0.len : Int))))) (Wn.no rfl) rfl (R.gtr rfl rfl) ?_
  refine LE.nil ?_
  refine WE.condT rfl (b := (decide (p1 < (p0.len : Int)))) rfl ?_ ?_
  · intro hb1
    replace h := M.ite_t h hb1
    refine WE.seq ?_
    refine WE.reg ?_
    refine LE.p (v := (SV.v p0)) (Wn.no rfl) rfl (R.move rfl) ?_
    refine LE.p (v := (Value.int .i64 p1)) (Wn.no rfl) rfl (R.move rfl) ?_
    obtain ⟨h2, h3, h4, h⟩ := h
    refine LE.p (v := (SV.v (SV.sub p0 (Int.toNat (0 : Int)) (Int.toNat p1) 1))) (Wn.no rfl) rfl (R.slc (s := p0) (lo := (0 : Int)) (hi := p1) _ _ sl40 rfl rfl rfl h2 h3 h4) ?_
    refine LE.p (v := (SV.v (SV.sub p0 (Int.toNat (0 : Int)) (Int.toNat p1) 1))) (Wn.no rfl) rfl (R.assign rfl) ?_
    refine LE.nil ?_
    refine WE.ret ?_
    exact ⟨_, (Res.tmp rfl Res.nil), _, rfl, h⟩
  · intro hb1
    replace h := M.ite_f h hb1
    refine WE.skip ?_
    refine WE.seq ?_
    refine WE.reg ?_
    refine LE.p (v := (SV.v p0)) (Wn.no rfl) rfl (R.move rfl) ?_
    refine LE.p (v := (SV.v p0)) (Wn.no rfl) rfl (R.assign rfl) ?_
    refine LE.nil ?_
    refine WE.ret ?_
    exact ⟨_, (Res.tmp rfl Res.nil), _, rfl, h⟩
/-- The formula of signpost.signpostlaw6.same. -/
def F23 (p0 : SV) (p1 : SV) (p2 : Int) (p3 : Int) (K : Bool → World → Prop) (w0 : World) : Prop :=
Calls Try.prog 10 #[(SV.v p0)] w0 (R10 fun r1 r2 w3 =>
Calls Try.prog 42 #[(SV.v p0)] w3 (R42 fun r4 r5 w6 =>
Calls Try.prog 19 #[(SV.v p0)] w6 (R19 fun r7 r8 w9 =>
M.join (fun (x11 : Int) (x12 : SV) (w19 : World) => 
M.join (fun (x33 : Bool) (w74 : World) => 
K x33 w74) fun J32 => 
Calls Try.prog 12 #[(SV.v p0)] w19 (R12 fun r34 w35 =>
Calls Try.prog 43 #[(SV.v p0)] w35 (R43 fun r36 w37 =>
M.ite (r34 == r36) (
Calls Try.prog 13 #[(SV.v p0)] w37 (R13 fun r39 w40 =>
Calls Try.prog 44 #[(SV.v p0)] w40 (R44 fun r41 w42 =>
M.ite (r39 == r41) (
Calls Try.prog 16 #[(SV.v p0), (Value.int .u32 p2)] w42 (R16 fun r44 w45 =>
Calls Try.prog 45 #[(SV.v p0), (Value.int .u32 p2)] w45 (R45 fun r46 w47 =>
M.ite (r44 == r46) (
M.ite (r1 == r4) (
M.ite (r2 == r5) (
Calls Try.prog 11 #[(SV.v p0), (Value.int .u32 p2), (Value.int .i64 p3)] w47 (R11 fun r51 w52 =>
Calls Try.prog 46 #[(SV.v p0), (Value.int .u32 p2), (Value.int .i64 p3)] w52 (R46 fun r53 w54 =>
Calls Try.prog 21 #[(SV.v r51), (SV.v r53)] w54 (R21 fun r55 w56 =>
M.ite r55 (
Calls Try.prog 18 #[(SV.v p0), (SV.v p1)] w56 (R18 fun r58 w59 =>
Calls Try.prog 41 #[(SV.v p0), (SV.v p1)] w59 (R41 fun r60 w61 =>
M.ite (r58 == (r60 == (0 : Int))) (
Calls Try.prog 17 #[(SV.v p0), (SV.v p1)] w61 (R17 fun r63 w64 =>
Calls Try.prog 41 #[(SV.v p0), (SV.v p1)] w64 (R41 fun r65 w66 =>
M.ite (r63 == (decide (r65 < (0 : Int)))) (
M.b2s Try.prog 40 9 r7 w66 fun t68 =>
M.b2s Try.prog 40 9 x12 w66 fun t70 =>
M.ite (t68.toList == t70.toList) (
J32 (r8 == x11) w66) (
J32 false w66)) (
J32 false w66)))) (
J32 false w61)))) (
J32 false w56))))) (
J32 false w47)) (
J32 false w47)) (
J32 false w47)))) (
J32 false w42)))) (
J32 false w37)))) fun J10 => 
Calls Try.prog 43 #[(SV.v p0)] w9 (R43 fun r13 w14 =>
M.ite r13 (
Calls Try.prog 24 #[(SV.v p0)] w14 (R24 fun r16 w17 =>
J10 (0 : Int) r16 w17)) (
J10 (12 : Int) SV.nil w14)))))
theorem F23_ok {w0 : World} {p0 : SV} {p1 : SV} {p2 : Int} {p3 : Int} {K : Bool → World → Prop} (h : F23 p0 p1 p2 p3 K w0) : Calls Try.prog 23 #[(SV.v p0), (SV.v p1), (Value.int .u32 p2), (Value.int .i64 p3)] w0 (R23 K) := by
  refine calls_of_WE (args := [(SV.v p0), (SV.v p1), (Value.int .u32 p2), (Value.int .i64 p3)]) (rs := [.tmp 8]) Try.func23 rfl (N := 110) rfl rfl rfl rfl ?_
  refine WE.seq ?_
  refine WE.reg ?_
  refine LE.p (v := (Value.bool false)) (Wn.no rfl) rfl (R.assign rfl) ?_
  refine LE.nil ?_
  refine WE.seq ?_
  refine WE.reg ?_
  refine LE.p (v := (SV.v p0)) (Wn.no rfl) rfl (R.move rfl) ?_
  refine LE.c (Wn.no rfl) rfl (R.call bd10 (Ls.cons rfl Ls.nil) rfl) (Calls.mono h ?_)
  rintro _ w3 ⟨r1, r2, rfl, h⟩
  refine ⟨_, rfl, ?_⟩
  refine LE.p (v := (Value.tuple #[(Value.int .u32 r1), (Value.bool r2)])) (Wn.no rfl) rfl (R.move rfl) ?_
  refine LE.p (v := (Value.int .u32 r1)) (Wn.no rfl) rfl (R.ext rfl rfl) ?_
  refine LE.p (v := (Value.bool r2)) (Wn.no rfl) rfl (R.ext rfl rfl) ?_
  refine LE.p (v := (Value.int .u32 r1)) (Wn.no rfl) rfl (R.assign rfl) ?_
  refine LE.p (v := (Value.bool r2)) (Wn.no rfl) rfl (R.assign rfl) ?_
  refine LE.nil ?_
  refine WE.seq ?_
  refine WE.reg ?_
  refine LE.p (v := (SV.v p0)) (Wn.no rfl) rfl (R.move rfl) ?_
  refine LE.c (Wn.no rfl) rfl (R.call bd42 (Ls.cons rfl Ls.nil) rfl) (Calls.mono h ?_)
  rintro _ w6 ⟨r4, r5, rfl, h⟩
  refine ⟨_, rfl, ?_⟩
  refine LE.p (v := (Value.tuple #[(Value.int .u32 r4), (Value.bool r5)])) (Wn.no rfl) rfl (R.move rfl) ?_
  refine LE.p (v := (Value.int .u32 r4)) (Wn.no rfl) rfl (R.ext rfl rfl) ?_
  refine LE.p (v := (Value.bool r5)) (Wn.no rfl) rfl (R.ext rfl rfl) ?_
  refine LE.p (v := (Value.int .u32 r4)) (Wn.no rfl) rfl (R.assign rfl) ?_
  refine LE.p (v := (Value.bool r5)) (Wn.no rfl) rfl (R.assign rfl) ?_
  refine LE.nil ?_
  refine WE.seq ?_
  refine WE.reg ?_
  refine LE.p (v := (SV.v p0)) (Wn.no rfl) rfl (R.move rfl) ?_
  refine LE.c (Wn.no rfl) rfl (R.call bd19 (Ls.cons rfl Ls.nil) rfl) (Calls.mono h ?_)
  rintro _ w9 ⟨r7, r8, rfl, h⟩
  refine ⟨_, rfl, ?_⟩
  refine LE.p (v := (Value.tuple #[(SV.v r7), (Value.int .i64 r8)])) (Wn.no rfl) rfl (R.move rfl) ?_
  refine LE.p (v := (SV.v r7)) (Wn.no rfl) rfl (R.ext rfl rfl) ?_
  refine LE.p (v := (Value.int .i64 r8)) (Wn.no rfl) rfl (R.ext rfl rfl) ?_
  refine LE.p (v := (SV.v r7)) (Wn.no rfl) rfl (R.assign rfl) ?_
  refine LE.p (v := (Value.int .i64 r8)) (Wn.no rfl) rfl (R.assign rfl) ?_
  refine LE.nil ?_
  refine WE.seq ?_
  refine WE.reg ?_
  refine LE.p (v := (Value.int .i64 (0 : Int))) (Wn.no rfl) rfl (R.assign rfl) ?_
  refine LE.nil ?_
  refine WE.seq ?_
  refine WE.reg ?_
  refine LE.p (v := (SV.v SV.nil)) (Wn.no rfl) rfl (R.assign rfl) ?_
  refine LE.nil ?_
  obtain ⟨J10, hJ10, h⟩ := M.join_use h
  refine WE.join (fun e w => ∃ (x11 : Int) (x12 : SV), J10 x11 x12 w ∧ e 0 = (SV.v p0) ∧ e 1 = (SV.v p1) ∧ e 2 = (Value.int .u32 p2) ∧ e 3 = (Value.int .i64 p3) ∧ e 9 = (Value.int .u32 r1) ∧ e 10 = (Value.bool r2) ∧ e 11 = (Value.int .u32 r4) ∧ e 12 = (Value.bool r5) ∧ e 13 = (SV.v r7) ∧ e 14 = (Value.int .i64 r8) ∧ e 15 = (Value.int .i64 x11) ∧ e 16 = (SV.v x12)) ?_ ?_
  · clear hJ10
    refine WE.seq ?_
    refine WE.reg ?_
    refine LE.p (v := (SV.v p0)) (Wn.no rfl) rfl (R.move rfl) ?_
    refine LE.c (Wn.no rfl) rfl (R.call bd43 (Ls.cons rfl Ls.nil) rfl) (Calls.mono h ?_)
    rintro _ w14 ⟨r13, rfl, h⟩
    refine ⟨_, rfl, ?_⟩
    refine LE.nil ?_
    refine WE.condT rfl (b := r13) rfl ?_ ?_
    · intro hb15
      replace h := M.ite_t h hb15
      refine WE.reg ?_
      refine LE.p (v := (SV.v p0)) (Wn.no rfl) rfl (R.move rfl) ?_
      refine LE.c (Wn.no rfl) rfl (R.call bd24 (Ls.cons rfl Ls.nil) rfl) (Calls.mono h ?_)
      rintro _ w17 ⟨r16, rfl, h⟩
      refine ⟨_, rfl, ?_⟩
      refine LE.p (v := (SV.v r16)) (Wn.no rfl) rfl (R.assign rfl) ?_
      refine LE.nil ?_
      exact ⟨_, _, h, rfl, rfl, rfl, rfl, rfl, rfl, rfl, rfl, rfl, rfl, rfl, rfl⟩
    · intro hb15
      replace h := M.ite_f h hb15
      refine WE.reg ?_
      refine LE.p (v := (Value.int .i64 (12 : Int))) (Wn.no rfl) rfl (R.assign rfl) ?_
      refine LE.nil ?_
      exact ⟨_, _, h, rfl, rfl, rfl, rfl, rfl, rfl, rfl, rfl, rfl, rfl, rfl, rfl⟩
  · rintro e18 w19 ⟨x11, x12, h, f20, f21, f22, f23, f24, f25, f26, f27, f28, f29, f30, f31⟩
    subst hJ10
    refine WE.seq ?_
    obtain ⟨J32, hJ32, h⟩ := M.join_use h
    refine WE.regJ (fun e w => ∃ (x33 : Bool), J32 x33 w ∧ e 8 = (Value.bool x33)) ?_ ?_
    · clear hJ32
      refine LE.p (v := (SV.v p0)) (Wn.no rfl) rfl (R.move f20) ?_
      refine LE.c (Wn.no rfl) rfl (R.call bd12 (Ls.cons rfl Ls.nil) rfl) (Calls.mono h ?_)
      rintro _ w35 ⟨r34, rfl, h⟩
      refine ⟨_, rfl, ?_⟩
      refine LE.p (v := (SV.v p0)) (Wn.no rfl) rfl (R.move f20) ?_
      refine LE.c (Wn.no rfl) rfl (R.call bd43 (Ls.cons rfl Ls.nil) rfl) (Calls.mono h ?_)
      rintro _ w37 ⟨r36, rfl, h⟩
      refine ⟨_, rfl, ?_⟩
      refine LE.p (v := (Value.bool (r34 == r36))) (Wn.no rfl) rfl (R.beql bo4 rfl rfl) ?_
      refine LE.p (v := (Value.bool (r34 == r36))) (Wn.no rfl) rfl (R.move rfl) ?_
      rcases M.ite_use h with ⟨hb38, h⟩ | ⟨hb38, h⟩
      · refine LE.p (v := (SV.v p0)) (Wn.yes 5 41 true rfl rfl rfl (congrArg Value.bool hb38)) rfl (R.move f20) ?_
        refine LE.c (Wn.yes 5 41 true rfl rfl rfl (congrArg Value.bool hb38)) rfl (R.call bd13 (Ls.cons rfl Ls.nil) rfl) (Calls.mono h ?_)
        rintro _ w40 ⟨r39, rfl, h⟩
        refine ⟨_, rfl, ?_⟩
        refine LE.p (v := (SV.v p0)) (Wn.yes 5 41 true rfl rfl rfl (congrArg Value.bool hb38)) rfl (R.move f20) ?_
        refine LE.c (Wn.yes 5 41 true rfl rfl rfl (congrArg Value.bool hb38)) rfl (R.call bd44 (Ls.cons rfl Ls.nil) rfl) (Calls.mono h ?_)
        rintro _ w42 ⟨r41, rfl, h⟩
        refine ⟨_, rfl, ?_⟩
        refine LE.p (v := (Value.bool (r39 == r41))) (Wn.yes 5 41 true rfl rfl rfl (congrArg Value.bool hb38)) rfl (R.eql rfl rfl) ?_
        refine LE.p (v := (Value.bool (r39 == r41))) (Wn.no rfl) rfl (R.pickT (congrArg Value.bool hb38) rfl) ?_
        refine LE.p (v := (Value.bool (r39 == r41))) (Wn.no rfl) rfl (R.move rfl) ?_
        rcases M.ite_use h with ⟨hb43, h⟩ | ⟨hb43, h⟩
        · refine LE.p (v := (SV.v p0)) (Wn.yes 12 48 true rfl rfl rfl (congrArg Value.bool hb43)) rfl (R.move f20) ?_
          refine LE.p (v := (Value.int .u32 p2)) (Wn.yes 12 48 true rfl rfl rfl (congrArg Value.bool hb43)) rfl (R.move f22) ?_
          refine LE.c (Wn.yes 12 48 true rfl rfl rfl (congrArg Value.bool hb43)) rfl (R.call bd16 (Ls.cons rfl (Ls.cons rfl Ls.nil)) rfl) (Calls.mono h ?_)
          rintro _ w45 ⟨r44, rfl, h⟩
          refine ⟨_, rfl, ?_⟩
          refine LE.p (v := (SV.v p0)) (Wn.yes 12 48 true rfl rfl rfl (congrArg Value.bool hb43)) rfl (R.move f20) ?_
          refine LE.p (v := (Value.int .u32 p2)) (Wn.yes 12 48 true rfl rfl rfl (congrArg Value.bool hb43)) rfl (R.move f22) ?_
          refine LE.c (Wn.yes 12 48 true rfl rfl rfl (congrArg Value.bool hb43)) rfl (R.call bd45 (Ls.cons rfl (Ls.cons rfl Ls.nil)) rfl) (Calls.mono h ?_)
          rintro _ w47 ⟨r46, rfl, h⟩
          refine ⟨_, rfl, ?_⟩
          refine LE.p (v := (Value.bool (r44 == r46))) (Wn.yes 12 48 true rfl rfl rfl (congrArg Value.bool hb43)) rfl (R.beql bo4 rfl rfl) ?_
          refine LE.p (v := (Value.bool (r44 == r46))) (Wn.no rfl) rfl (R.pickT (congrArg Value.bool hb43) rfl) ?_
          refine LE.p (v := (Value.bool (r44 == r46))) (Wn.no rfl) rfl (R.move rfl) ?_
          rcases M.ite_use h with ⟨hb48, h⟩ | ⟨hb48, h⟩
          · refine LE.p (v := (Value.int .u32 r1)) (Wn.yes 21 57 true rfl rfl rfl (congrArg Value.bool hb48)) rfl (R.move f24) ?_
            refine LE.p (v := (Value.int .u32 r4)) (Wn.yes 21 57 true rfl rfl rfl (congrArg Value.bool hb48)) rfl (R.move f26) ?_
            refine LE.p (v := (Value.bool (r1 == r4))) (Wn.yes 21 57 true rfl rfl rfl (congrArg Value.bool hb48)) rfl (R.eql rfl rfl) ?_
            refine LE.p (v := (Value.bool (r1 == r4))) (Wn.no rfl) rfl (R.pickT (congrArg Value.bool hb48) rfl) ?_
            refine LE.p (v := (Value.bool (r1 == r4))) (Wn.no rfl) rfl (R.move rfl) ?_
            rcases M.ite_use h with ⟨hb49, h⟩ | ⟨hb49, h⟩
            · refine LE.p (v := (Value.bool r2)) (Wn.yes 26 62 true rfl rfl rfl (congrArg Value.bool hb49)) rfl (R.move f25) ?_
              refine LE.p (v := (Value.bool r5)) (Wn.yes 26 62 true rfl rfl rfl (congrArg Value.bool hb49)) rfl (R.move f27) ?_
              refine LE.p (v := (Value.bool (r2 == r5))) (Wn.yes 26 62 true rfl rfl rfl (congrArg Value.bool hb49)) rfl (R.beql bo4 rfl rfl) ?_
              refine LE.p (v := (Value.bool (r2 == r5))) (Wn.no rfl) rfl (R.pickT (congrArg Value.bool hb49) rfl) ?_
              refine LE.p (v := (Value.bool (r2 == r5))) (Wn.no rfl) rfl (R.move rfl) ?_
              rcases M.ite_use h with ⟨hb50, h⟩ | ⟨hb50, h⟩
              · refine LE.p (v := (SV.v p0)) (Wn.yes 31 67 true rfl rfl rfl (congrArg Value.bool hb50)) rfl (R.move f20) ?_
                refine LE.p (v := (Value.int .u32 p2)) (Wn.yes 31 67 true rfl rfl rfl (congrArg Value.bool hb50)) rfl (R.move f22) ?_
                refine LE.p (v := (Value.int .i64 p3)) (Wn.yes 31 67 true rfl rfl rfl (congrArg Value.bool hb50)) rfl (R.move f23) ?_
                refine LE.c (Wn.yes 31 67 true rfl rfl rfl (congrArg Value.bool hb50)) rfl (R.call bd11 (Ls.cons rfl (Ls.cons rfl (Ls.cons rfl Ls.nil))) rfl) (Calls.mono h ?_)
                rintro _ w52 ⟨r51, rfl, h⟩
                refine ⟨_, rfl, ?_⟩
                refine LE.p (v := (SV.v p0)) (Wn.yes 31 67 true rfl rfl rfl (congrArg Value.bool hb50)) rfl (R.move f20) ?_
                refine LE.p (v := (Value.int .u32 p2)) (Wn.yes 31 67 true rfl rfl rfl (congrArg Value.bool hb50)) rfl (R.move f22) ?_
                refine LE.p (v := (Value.int .i64 p3)) (Wn.yes 31 67 true rfl rfl rfl (congrArg Value.bool hb50)) rfl (R.move f23) ?_
                refine LE.c (Wn.yes 31 67 true rfl rfl rfl (congrArg Value.bool hb50)) rfl (R.call bd46 (Ls.cons rfl (Ls.cons rfl (Ls.cons rfl Ls.nil))) rfl) (Calls.mono h ?_)
                rintro _ w54 ⟨r53, rfl, h⟩
                refine ⟨_, rfl, ?_⟩
                refine LE.c (Wn.yes 31 67 true rfl rfl rfl (congrArg Value.bool hb50)) rfl (R.call bd21 (Ls.cons rfl (Ls.cons rfl Ls.nil)) rfl) (Calls.mono h ?_)
                rintro _ w56 ⟨r55, rfl, h⟩
                refine ⟨_, rfl, ?_⟩
                refine LE.p (v := (Value.bool r55)) (Wn.no rfl) rfl (R.pickT (congrArg Value.bool hb50) rfl) ?_
                refine LE.p (v := (Value.bool r55)) (Wn.no rfl) rfl (R.move rfl) ?_
                rcases M.ite_use h with ⟨hb57, h⟩ | ⟨hb57, h⟩
                · refine LE.p (v := (SV.v p0)) (Wn.yes 42 78 true rfl rfl rfl (congrArg Value.bool hb57)) rfl (R.move f20) ?_
                  refine LE.p (v := (SV.v p1)) (Wn.yes 42 78 true rfl rfl rfl (congrArg Value.bool hb57)) rfl (R.move f21) ?_
                  refine LE.c (Wn.yes 42 78 true rfl rfl rfl (congrArg Value.bool hb57)) rfl (R.call bd18 (Ls.cons rfl (Ls.cons rfl Ls.nil)) rfl) (Calls.mono h ?_)
                  rintro _ w59 ⟨r58, rfl, h⟩
                  refine ⟨_, rfl, ?_⟩
                  refine LE.p (v := (SV.v p0)) (Wn.yes 42 78 true rfl rfl rfl (congrArg Value.bool hb57)) rfl (R.move f20) ?_
                  refine LE.p (v := (SV.v p1)) (Wn.yes 42 78 true rfl rfl rfl (congrArg Value.bool hb57)) rfl (R.move f21) ?_
                  refine LE.c (Wn.yes 42 78 true rfl rfl rfl (congrArg Value.bool hb57)) rfl (R.call bd41 (Ls.cons rfl (Ls.cons rfl Ls.nil)) rfl) (Calls.mono h ?_)
                  rintro _ w61 ⟨r60, rfl, h⟩
                  refine ⟨_, rfl, ?_⟩
                  refine LE.p (v := (Value.bool (r60 == (0 : Int)))) (Wn.yes 42 78 true rfl rfl rfl (congrArg Value.bool hb57)) rfl (R.eql rfl rfl) ?_
                  refine LE.p (v := (Value.bool (r58 == (r60 == (0 : Int))))) (Wn.yes 42 78 true rfl rfl rfl (congrArg Value.bool hb57)) rfl (R.beql bo4 rfl rfl) ?_
                  refine LE.p (v := (Value.bool (r58 == (r60 == (0 : Int))))) (Wn.no rfl) rfl (R.pickT (congrArg Value.bool hb57) rfl) ?_
                  refine LE.p (v := (Value.bool (r58 == (r60 == (0 : Int))))) (Wn.no rfl) rfl (R.move rfl) ?_
                  rcases M.ite_use h with ⟨hb62, h⟩ | ⟨hb62, h⟩
                  · refine LE.p (v := (SV.v p0)) (Wn.yes 52 88 true rfl rfl rfl (congrArg Value.bool hb62)) rfl (R.move f20) ?_
                    refine LE.p (v := (SV.v p1)) (Wn.yes 52 88 true rfl rfl rfl (congrArg Value.bool hb62)) rfl (R.move f21) ?_
                    refine LE.c (Wn.yes 52 88 true rfl rfl rfl (congrArg Value.bool hb62)) rfl (R.call bd17 (Ls.cons rfl (Ls.cons rfl Ls.nil)) rfl) (Calls.mono h ?_)
                    rintro _ w64 ⟨r63, rfl, h⟩
                    refine ⟨_, rfl, ?_⟩
                    refine LE.p (v := (SV.v p0)) (Wn.yes 52 88 true rfl rfl rfl (congrArg Value.bool hb62)) rfl (R.move f20) ?_
                    refine LE.p (v := (SV.v p1)) (Wn.yes 52 88 true rfl rfl rfl (congrArg Value.bool hb62)) rfl (R.move f21) ?_
                    refine LE.c (Wn.yes 52 88 true rfl rfl rfl (congrArg Value.bool hb62)) rfl (R.call bd41 (Ls.cons rfl (Ls.cons rfl Ls.nil)) rfl) (Calls.mono h ?_)
                    rintro _ w66 ⟨r65, rfl, h⟩
                    refine ⟨_, rfl, ?_⟩
                    refine LE.p (v := (Value.bool (decide (r65 < (0 : Int))))) (Wn.yes 52 88 true rfl rfl rfl (congrArg Value.bool hb62)) rfl (R.lss rfl rfl) ?_
                    refine LE.p (v := (Value.bool (r63 == (decide (r65 < (0 : Int)))))) (Wn.yes 52 88 true rfl rfl rfl (congrArg Value.bool hb62)) rfl (R.beql bo4 rfl rfl) ?_
                    refine LE.p (v := (Value.bool (r63 == (decide (r65 < (0 : Int)))))) (Wn.no rfl) rfl (R.pickT (congrArg Value.bool hb62) rfl) ?_
                    refine LE.p (v := (Value.bool (r63 == (decide (r65 < (0 : Int)))))) (Wn.no rfl) rfl (R.move rfl) ?_
                    rcases M.ite_use h with ⟨hb67, h⟩ | ⟨hb67, h⟩
                    · refine LE.p (v := (SV.v r7)) (Wn.yes 62 98 true rfl rfl rfl (congrArg Value.bool hb67)) rfl (R.move f28) ?_
                      obtain ⟨t68, h69, h⟩ := h
                      refine LE.r (v := (Value.string t68)) (Wn.yes 62 98 true rfl rfl rfl (congrArg Value.bool hb67)) rfl (R.b2s (s := r7) h69 rfl) ?_
                      refine LE.p (v := (SV.v x12)) (Wn.yes 62 98 true rfl rfl rfl (congrArg Value.bool hb67)) rfl (R.move f31) ?_
                      obtain ⟨t70, h71, h⟩ := h
                      refine LE.r (v := (Value.string t70)) (Wn.yes 62 98 true rfl rfl rfl (congrArg Value.bool hb67)) rfl (R.b2s (s := x12) h71 rfl) ?_
                      refine LE.p (v := (Value.bool (t68.toList == t70.toList))) (Wn.yes 62 98 true rfl rfl rfl (congrArg Value.bool hb67)) rfl (R.seql rfl rfl) ?_
                      refine LE.p (v := (Value.bool (t68.toList == t70.toList))) (Wn.no rfl) rfl (R.pickT (congrArg Value.bool hb67) rfl) ?_
                      refine LE.p (v := (Value.bool (t68.toList == t70.toList))) (Wn.no rfl) rfl (R.move rfl) ?_
                      rcases M.ite_use h with ⟨hb72, h⟩ | ⟨hb72, h⟩
                      · refine LE.p (v := (Value.int .i64 r8)) (Wn.yes 69 105 true rfl rfl rfl (congrArg Value.bool hb72)) rfl (R.move f29) ?_
                        refine LE.p (v := (Value.int .i64 x11)) (Wn.yes 69 105 true rfl rfl rfl (congrArg Value.bool hb72)) rfl (R.move f30) ?_
                        refine LE.p (v := (Value.bool (r8 == x11))) (Wn.yes 69 105 true rfl rfl rfl (congrArg Value.bool hb72)) rfl (R.eql rfl rfl) ?_
                        refine LE.p (v := (Value.bool (r8 == x11))) (Wn.no rfl) rfl (R.pickT (congrArg Value.bool hb72) rfl) ?_
                        refine LE.p (v := (Value.bool (r8 == x11))) (Wn.no rfl) rfl (R.assign rfl) ?_
                        refine LE.nil ?_
                        exact ⟨_, h, rfl⟩
                      · refine LE.u (Un.no 69 105 true rfl rfl rfl (congrArg Value.bool hb72)) ?_
                        refine LE.u (Un.no 69 105 true rfl rfl rfl (congrArg Value.bool hb72)) ?_
                        refine LE.u (Un.no 69 105 true rfl rfl rfl (congrArg Value.bool hb72)) ?_
                        refine LE.p (v := (Value.bool false)) (Wn.no rfl) rfl (R.pickF (congrArg Value.bool hb72) rfl) ?_
                        refine LE.p (v := (Value.bool false)) (Wn.no rfl) rfl (R.assign rfl) ?_
                        refine LE.nil ?_
                        exact ⟨_, h, rfl⟩
                    · refine LE.u (Un.no 62 98 true rfl rfl rfl (congrArg Value.bool hb67)) ?_
                      refine LE.u (Un.no 62 98 true rfl rfl rfl (congrArg Value.bool hb67)) ?_
                      refine LE.u (Un.no 62 98 true rfl rfl rfl (congrArg Value.bool hb67)) ?_
                      refine LE.u (Un.no 62 98 true rfl rfl rfl (congrArg Value.bool hb67)) ?_
                      refine LE.u (Un.no 62 98 true rfl rfl rfl (congrArg Value.bool hb67)) ?_
                      refine LE.p (v := (Value.bool false)) (Wn.no rfl) rfl (R.pickF (congrArg Value.bool hb67) rfl) ?_
                      refine LE.p (v := (Value.bool false)) (Wn.no rfl) rfl (R.move rfl) ?_
                      refine LE.u (Un.no 69 105 true rfl rfl rfl rfl) ?_
                      refine LE.u (Un.no 69 105 true rfl rfl rfl rfl) ?_
                      refine LE.u (Un.no 69 105 true rfl rfl rfl rfl) ?_
                      refine LE.p (v := (Value.bool false)) (Wn.no rfl) rfl (R.pickF rfl rfl) ?_
                      refine LE.p (v := (Value.bool false)) (Wn.no rfl) rfl (R.assign rfl) ?_
                      refine LE.nil ?_
                      exact ⟨_, h, rfl⟩
                  · refine LE.u (Un.no 52 88 true rfl rfl rfl (congrArg Value.bool hb62)) ?_
                    refine LE.u (Un.no 52 88 true rfl rfl rfl (congrArg Value.bool hb62)) ?_
                    refine LE.u (Un.no 52 88 true rfl rfl rfl (congrArg Value.bool hb62)) ?_
                    refine LE.u (Un.no 52 88 true rfl rfl rfl (congrArg Value.bool hb62)) ?_
                    refine LE.u (Un.no 52 88 true rfl rfl rfl (congrArg Value.bool hb62)) ?_
                    refine LE.u (Un.no 52 88 true rfl rfl rfl (congrArg Value.bool hb62)) ?_
                    refine LE.u (Un.no 52 88 true rfl rfl rfl (congrArg Value.bool hb62)) ?_
                    refine LE.u (Un.no 52 88 true rfl rfl rfl (congrArg Value.bool hb62)) ?_
                    refine LE.p (v := (Value.bool false)) (Wn.no rfl) rfl (R.pickF (congrArg Value.bool hb62) rfl) ?_
                    refine LE.p (v := (Value.bool false)) (Wn.no rfl) rfl (R.move rfl) ?_
                    refine LE.u (Un.no 62 98 true rfl rfl rfl rfl) ?_
                    refine LE.u (Un.no 62 98 true rfl rfl rfl rfl) ?_
                    refine LE.u (Un.no 62 98 true rfl rfl rfl rfl) ?_
                    refine LE.u (Un.no 62 98 true rfl rfl rfl rfl) ?_
                    refine LE.u (Un.no 62 98 true rfl rfl rfl rfl) ?_
                    refine LE.p (v := (Value.bool false)) (Wn.no rfl) rfl (R.pickF rfl rfl) ?_
                    refine LE.p (v := (Value.bool false)) (Wn.no rfl) rfl (R.move rfl) ?_
                    refine LE.u (Un.no 69 105 true rfl rfl rfl rfl) ?_
                    refine LE.u (Un.no 69 105 true rfl rfl rfl rfl) ?_
                    refine LE.u (Un.no 69 105 true rfl rfl rfl rfl) ?_
                    refine LE.p (v := (Value.bool false)) (Wn.no rfl) rfl (R.pickF rfl rfl) ?_
                    refine LE.p (v := (Value.bool false)) (Wn.no rfl) rfl (R.assign rfl) ?_
                    refine LE.nil ?_
                    exact ⟨_, h, rfl⟩
                · refine LE.u (Un.no 42 78 true rfl rfl rfl (congrArg Value.bool hb57)) ?_
                  refine LE.u (Un.no 42 78 true rfl rfl rfl (congrArg Value.bool hb57)) ?_
                  refine LE.u (Un.no 42 78 true rfl rfl rfl (congrArg Value.bool hb57)) ?_
                  refine LE.u (Un.no 42 78 true rfl rfl rfl (congrArg Value.bool hb57)) ?_
                  refine LE.u (Un.no 42 78 true rfl rfl rfl (congrArg Value.bool hb57)) ?_
                  refine LE.u (Un.no 42 78 true rfl rfl rfl (congrArg Value.bool hb57)) ?_
                  refine LE.u (Un.no 42 78 true rfl rfl rfl (congrArg Value.bool hb57)) ?_
                  refine LE.u (Un.no 42 78 true rfl rfl rfl (congrArg Value.bool hb57)) ?_
                  refine LE.p (v := (Value.bool false)) (Wn.no rfl) rfl (R.pickF (congrArg Value.bool hb57) rfl) ?_
                  refine LE.p (v := (Value.bool false)) (Wn.no rfl) rfl (R.move rfl) ?_
                  refine LE.u (Un.no 52 88 true rfl rfl rfl rfl) ?_
                  refine LE.u (Un.no 52 88 true rfl rfl rfl rfl) ?_
                  refine LE.u (Un.no 52 88 true rfl rfl rfl rfl) ?_
                  refine LE.u (Un.no 52 88 true rfl rfl rfl rfl) ?_
                  refine LE.u (Un.no 52 88 true rfl rfl rfl rfl) ?_
                  refine LE.u (Un.no 52 88 true rfl rfl rfl rfl) ?_
                  refine LE.u (Un.no 52 88 true rfl rfl rfl rfl) ?_
                  refine LE.u (Un.no 52 88 true rfl rfl rfl rfl) ?_
                  refine LE.p (v := (Value.bool false)) (Wn.no rfl) rfl (R.pickF rfl rfl) ?_
                  refine LE.p (v := (Value.bool false)) (Wn.no rfl) rfl (R.move rfl) ?_
                  refine LE.u (Un.no 62 98 true rfl rfl rfl rfl) ?_
                  refine LE.u (Un.no 62 98 true rfl rfl rfl rfl) ?_
                  refine LE.u (Un.no 62 98 true rfl rfl rfl rfl) ?_
                  refine LE.u (Un.no 62 98 true rfl rfl rfl rfl) ?_
                  refine LE.u (Un.no 62 98 true rfl rfl rfl rfl) ?_
                  refine LE.p (v := (Value.bool false)) (Wn.no rfl) rfl (R.pickF rfl rfl) ?_
                  refine LE.p (v := (Value.bool false)) (Wn.no rfl) rfl (R.move rfl) ?_
                  refine LE.u (Un.no 69 105 true rfl rfl rfl rfl) ?_
                  refine LE.u (Un.no 69 105 true rfl rfl rfl rfl) ?_
                  refine LE.u (Un.no 69 105 true rfl rfl rfl rfl) ?_
                  refine LE.p (v := (Value.bool false)) (Wn.no rfl) rfl (R.pickF rfl rfl) ?_
                  refine LE.p (v := (Value.bool false)) (Wn.no rfl) rfl (R.assign rfl) ?_
                  refine LE.nil ?_
                  exact ⟨_, h, rfl⟩
              · refine LE.u (Un.no 31 67 true rfl rfl rfl (congrArg Value.bool hb50)) ?_
                refine LE.u (Un.no 31 67 true rfl rfl rfl (congrArg Value.bool hb50)) ?_
                refine LE.u (Un.no 31 67 true rfl rfl rfl (congrArg Value.bool hb50)) ?_
                refine LE.u (Un.no 31 67 true rfl rfl rfl (congrArg Value.bool hb50)) ?_
                refine LE.u (Un.no 31 67 true rfl rfl rfl (congrArg Value.bool hb50)) ?_
                refine LE.u (Un.no 31 67 true rfl rfl rfl (congrArg Value.bool hb50)) ?_
                refine LE.u (Un.no 31 67 true rfl rfl rfl (congrArg Value.bool hb50)) ?_
                refine LE.u (Un.no 31 67 true rfl rfl rfl (congrArg Value.bool hb50)) ?_
                refine LE.u (Un.no 31 67 true rfl rfl rfl (congrArg Value.bool hb50)) ?_
                refine LE.p (v := (Value.bool false)) (Wn.no rfl) rfl (R.pickF (congrArg Value.bool hb50) rfl) ?_
                refine LE.p (v := (Value.bool false)) (Wn.no rfl) rfl (R.move rfl) ?_
                refine LE.u (Un.no 42 78 true rfl rfl rfl rfl) ?_
                refine LE.u (Un.no 42 78 true rfl rfl rfl rfl) ?_
                refine LE.u (Un.no 42 78 true rfl rfl rfl rfl) ?_
                refine LE.u (Un.no 42 78 true rfl rfl rfl rfl) ?_
                refine LE.u (Un.no 42 78 true rfl rfl rfl rfl) ?_
                refine LE.u (Un.no 42 78 true rfl rfl rfl rfl) ?_
                refine LE.u (Un.no 42 78 true rfl rfl rfl rfl) ?_
                refine LE.u (Un.no 42 78 true rfl rfl rfl rfl) ?_
                refine LE.p (v := (Value.bool false)) (Wn.no rfl) rfl (R.pickF rfl rfl) ?_
                refine LE.p (v := (Value.bool false)) (Wn.no rfl) rfl (R.move rfl) ?_
                refine LE.u (Un.no 52 88 true rfl rfl rfl rfl) ?_
                refine LE.u (Un.no 52 88 true rfl rfl rfl rfl) ?_
                refine LE.u (Un.no 52 88 true rfl rfl rfl rfl) ?_
                refine LE.u (Un.no 52 88 true rfl rfl rfl rfl) ?_
                refine LE.u (Un.no 52 88 true rfl rfl rfl rfl) ?_
                refine LE.u (Un.no 52 88 true rfl rfl rfl rfl) ?_
                refine LE.u (Un.no 52 88 true rfl rfl rfl rfl) ?_
                refine LE.u (Un.no 52 88 true rfl rfl rfl rfl) ?_
                refine LE.p (v := (Value.bool false)) (Wn.no rfl) rfl (R.pickF rfl rfl) ?_
                refine LE.p (v := (Value.bool false)) (Wn.no rfl) rfl (R.move rfl) ?_
                refine LE.u (Un.no 62 98 true rfl rfl rfl rfl) ?_
                refine LE.u (Un.no 62 98 true rfl rfl rfl rfl) ?_
                refine LE.u (Un.no 62 98 true rfl rfl rfl rfl) ?_
                refine LE.u (Un.no 62 98 true rfl rfl rfl rfl) ?_
                refine LE.u (Un.no 62 98 true rfl rfl rfl rfl) ?_
                refine LE.p (v := (Value.bool false)) (Wn.no rfl) rfl (R.pickF rfl rfl) ?_
                refine LE.p (v := (Value.bool false)) (Wn.no rfl) rfl (R.move rfl) ?_
                refine LE.u (Un.no 69 105 true rfl rfl rfl rfl) ?_
                refine LE.u (Un.no 69 105 true rfl rfl rfl rfl) ?_
                refine LE.u (Un.no 69 105 true rfl rfl rfl rfl) ?_
                refine LE.p (v := (Value.bool false)) (Wn.no rfl) rfl (R.pickF rfl rfl) ?_
                refine LE.p (v := (Value.bool false)) (Wn.no rfl) rfl (R.assign rfl) ?_
                refine LE.nil ?_
                exact ⟨_, h, rfl⟩
            · refine LE.u (Un.no 26 62 true rfl rfl rfl (congrArg Value.bool hb49)) ?_
              refine LE.u (Un.no 26 62 true rfl rfl rfl (congrArg Value.bool hb49)) ?_
              refine LE.u (Un.no 26 62 true rfl rfl rfl (congrArg Value.bool hb49)) ?_
              refine LE.p (v := (Value.bool false)) (Wn.no rfl) rfl (R.pickF (congrArg Value.bool hb49) rfl) ?_
              refine LE.p (v := (Value.bool false)) (Wn.no rfl) rfl (R.move rfl) ?_
              refine LE.u (Un.no 31 67 true rfl rfl rfl rfl) ?_
              refine LE.u (Un.no 31 67 true rfl rfl rfl rfl) ?_
              refine LE.u (Un.no 31 67 true rfl rfl rfl rfl) ?_
              refine LE.u (Un.no 31 67 true rfl rfl rfl rfl) ?_
              refine LE.u (Un.no 31 67 true rfl rfl rfl rfl) ?_
              refine LE.u (Un.no 31 67 true rfl rfl rfl rfl) ?_
              refine LE.u (Un.no 31 67 true rfl rfl rfl rfl) ?_
              refine LE.u (Un.no 31 67 true rfl rfl rfl rfl) ?_
              refine LE.u (Un.no 31 67 true rfl rfl rfl rfl) ?_
              refine LE.p (v := (Value.bool false)) (Wn.no rfl) rfl (R.pickF rfl rfl) ?_
              refine LE.p (v := (Value.bool false)) (Wn.no rfl) rfl (R.move rfl) ?_
              refine LE.u (Un.no 42 78 true rfl rfl rfl rfl) ?_
              refine LE.u (Un.no 42 78 true rfl rfl rfl rfl) ?_
              refine LE.u (Un.no 42 78 true rfl rfl rfl rfl) ?_
              refine LE.u (Un.no 42 78 true rfl rfl rfl rfl) ?_
              refine LE.u (Un.no 42 78 true rfl rfl rfl rfl) ?_
              refine LE.u (Un.no 42 78 true rfl rfl rfl rfl) ?_
              refine LE.u (Un.no 42 78 true rfl rfl rfl rfl) ?_
              refine LE.u (Un.no 42 78 true rfl rfl rfl rfl) ?_
              refine LE.p (v := (Value.bool false)) (Wn.no rfl) rfl (R.pickF rfl rfl) ?_
              refine LE.p (v := (Value.bool false)) (Wn.no rfl) rfl (R.move rfl) ?_
              refine LE.u (Un.no 52 88 true rfl rfl rfl rfl) ?_
              refine LE.u (Un.no 52 88 true rfl rfl rfl rfl) ?_
              refine LE.u (Un.no 52 88 true rfl rfl rfl rfl) ?_
              refine LE.u (Un.no 52 88 true rfl rfl rfl rfl) ?_
              refine LE.u (Un.no 52 88 true rfl rfl rfl rfl) ?_
              refine LE.u (Un.no 52 88 true rfl rfl rfl rfl) ?_
              refine LE.u (Un.no 52 88 true rfl rfl rfl rfl) ?_
              refine LE.u (Un.no 52 88 true rfl rfl rfl rfl) ?_
              refine LE.p (v := (Value.bool false)) (Wn.no rfl) rfl (R.pickF rfl rfl) ?_
              refine LE.p (v := (Value.bool false)) (Wn.no rfl) rfl (R.move rfl) ?_
              refine LE.u (Un.no 62 98 true rfl rfl rfl rfl) ?_
              refine LE.u (Un.no 62 98 true rfl rfl rfl rfl) ?_
              refine LE.u (Un.no 62 98 true rfl rfl rfl rfl) ?_
              refine LE.u (Un.no 62 98 true rfl rfl rfl rfl) ?_
              refine LE.u (Un.no 62 98 true rfl rfl rfl rfl) ?_
              refine LE.p (v := (Value.bool false)) (Wn.no rfl) rfl (R.pickF rfl rfl) ?_
              refine LE.p (v := (Value.bool false)) (Wn.no rfl) rfl (R.move rfl) ?_
              refine LE.u (Un.no 69 105 true rfl rfl rfl rfl) ?_
              refine LE.u (Un.no 69 105 true rfl rfl rfl rfl) ?_
              refine LE.u (Un.no 69 105 true rfl rfl rfl rfl) ?_
              refine LE.p (v := (Value.bool false)) (Wn.no rfl) rfl (R.pickF rfl rfl) ?_
              refine LE.p (v := (Value.bool false)) (Wn.no rfl) rfl (R.assign rfl) ?_
              refine LE.nil ?_
              exact ⟨_, h, rfl⟩
          · refine LE.u (Un.no 21 57 true rfl rfl rfl (congrArg Value.bool hb48)) ?_
            refine LE.u (Un.no 21 57 true rfl rfl rfl (congrArg Value.bool hb48)) ?_
            refine LE.u (Un.no 21 57 true rfl rfl rfl (congrArg Value.bool hb48)) ?_
            refine LE.p (v := (Value.bool false)) (Wn.no rfl) rfl (R.pickF (congrArg Value.bool hb48) rfl) ?_
            refine LE.p (v := (Value.bool false)) (Wn.no rfl) rfl (R.move rfl) ?_
            refine LE.u (Un.no 26 62 true rfl rfl rfl rfl) ?_
            refine LE.u (Un.no 26 62 true rfl rfl rfl rfl) ?_
            refine LE.u (Un.no 26 62 true rfl rfl rfl rfl) ?_
            refine LE.p (v := (Value.bool false)) (Wn.no rfl) rfl (R.pickF rfl rfl) ?_
            refine LE.p (v := (Value.bool false)) (Wn.no rfl) rfl (R.move rfl) ?_
            refine LE.u (Un.no 31 67 true rfl rfl rfl rfl) ?_
            refine LE.u (Un.no 31 67 true rfl rfl rfl rfl) ?_
            refine LE.u (Un.no 31 67 true rfl rfl rfl rfl) ?_
            refine LE.u (Un.no 31 67 true rfl rfl rfl rfl) ?_
            refine LE.u (Un.no 31 67 true rfl rfl rfl rfl) ?_
            refine LE.u (Un.no 31 67 true rfl rfl rfl rfl) ?_
            refine LE.u (Un.no 31 67 true rfl rfl rfl rfl) ?_
            refine LE.u (Un.no 31 67 true rfl rfl rfl rfl) ?_
            refine LE.u (Un.no 31 67 true rfl rfl rfl rfl) ?_
            refine LE.p (v := (Value.bool false)) (Wn.no rfl) rfl (R.pickF rfl rfl) ?_
            refine LE.p (v := (Value.bool false)) (Wn.no rfl) rfl (R.move rfl) ?_
            refine LE.u (Un.no 42 78 true rfl rfl rfl rfl) ?_
            refine LE.u (Un.no 42 78 true rfl rfl rfl rfl) ?_
            refine LE.u (Un.no 42 78 true rfl rfl rfl rfl) ?_
            refine LE.u (Un.no 42 78 true rfl rfl rfl rfl) ?_
            refine LE.u (Un.no 42 78 true rfl rfl rfl rfl) ?_
            refine LE.u (Un.no 42 78 true rfl rfl rfl rfl) ?_
            refine LE.u (Un.no 42 78 true rfl rfl rfl rfl) ?_
            refine LE.u (Un.no 42 78 true rfl rfl rfl rfl) ?_
            refine LE.p (v := (Value.bool false)) (Wn.no rfl) rfl (R.pickF rfl rfl) ?_
            refine LE.p (v := (Value.bool false)) (Wn.no rfl) rfl (R.move rfl) ?_
            refine LE.u (Un.no 52 88 true rfl rfl rfl rfl) ?_
            refine LE.u (Un.no 52 88 true rfl rfl rfl rfl) ?_
            refine LE.u (Un.no 52 88 true rfl rfl rfl rfl) ?_
            refine LE.u (Un.no 52 88 true rfl rfl rfl rfl) ?_
            refine LE.u (Un.no 52 88 true rfl rfl rfl rfl) ?_
            refine LE.u (Un.no 52 88 true rfl rfl rfl rfl) ?_
            refine LE.u (Un.no 52 88 true rfl rfl rfl rfl) ?_
            refine LE.u (Un.no 52 88 true rfl rfl rfl rfl) ?_
            refine LE.p (v := (Value.bool false)) (Wn.no rfl) rfl (R.pickF rfl rfl) ?_
            refine LE.p (v := (Value.bool false)) (Wn.no rfl) rfl (R.move rfl) ?_
            refine LE.u (Un.no 62 98 true rfl rfl rfl rfl) ?_
            refine LE.u (Un.no 62 98 true rfl rfl rfl rfl) ?_
            refine LE.u (Un.no 62 98 true rfl rfl rfl rfl) ?_
            refine LE.u (Un.no 62 98 true rfl rfl rfl rfl) ?_
            refine LE.u (Un.no 62 98 true rfl rfl rfl rfl) ?_
            refine LE.p (v := (Value.bool false)) (Wn.no rfl) rfl (R.pickF rfl rfl) ?_
            refine LE.p (v := (Value.bool false)) (Wn.no rfl) rfl (R.move rfl) ?_
            refine LE.u (Un.no 69 105 true rfl rfl rfl rfl) ?_
            refine LE.u (Un.no 69 105 true rfl rfl rfl rfl) ?_
            refine LE.u (Un.no 69 105 true rfl rfl rfl rfl) ?_
            refine LE.p (v := (Value.bool false)) (Wn.no rfl) rfl (R.pickF rfl rfl) ?_
            refine LE.p (v := (Value.bool false)) (Wn.no rfl) rfl (R.assign rfl) ?_
            refine LE.nil ?_
            exact ⟨_, h, rfl⟩
        · refine LE.u (Un.no 12 48 true rfl rfl rfl (congrArg Value.bool hb43)) ?_
          refine LE.u (Un.no 12 48 true rfl rfl rfl (congrArg Value.bool hb43)) ?_
          refine LE.u (Un.no 12 48 true rfl rfl rfl (congrArg Value.bool hb43)) ?_
          refine LE.u (Un.no 12 48 true rfl rfl rfl (congrArg Value.bool hb43)) ?_
          refine LE.u (Un.no 12 48 true rfl rfl rfl (congrArg Value.bool hb43)) ?_
          refine LE.u (Un.no 12 48 true rfl rfl rfl (congrArg Value.bool hb43)) ?_
          refine LE.u (Un.no 12 48 true rfl rfl rfl (congrArg Value.bool hb43)) ?_
          refine LE.p (v := (Value.bool false)) (Wn.no rfl) rfl (R.pickF (congrArg Value.bool hb43) rfl) ?_
          refine LE.p (v := (Value.bool false)) (Wn.no rfl) rfl (R.move rfl) ?_
          refine LE.u (Un.no 21 57 true rfl rfl rfl rfl) ?_
          refine LE.u (Un.no 21 57 true rfl rfl rfl rfl) ?_
          refine LE.u (Un.no 21 57 true rfl rfl rfl rfl) ?_
          refine LE.p (v := (Value.bool false)) (Wn.no rfl) rfl (R.pickF rfl rfl) ?_
          refine LE.p (v := (Value.bool false)) (Wn.no rfl) rfl (R.move rfl) ?_
          refine LE.u (Un.no 26 62 true rfl rfl rfl rfl) ?_
          refine LE.u (Un.no 26 62 true rfl rfl rfl rfl) ?_
          refine LE.u (Un.no 26 62 true rfl rfl rfl rfl) ?_
          refine LE.p (v := (Value.bool false)) (Wn.no rfl) rfl (R.pickF rfl rfl) ?_
          refine LE.p (v := (Value.bool false)) (Wn.no rfl) rfl (R.move rfl) ?_
          refine LE.u (Un.no 31 67 true rfl rfl rfl rfl) ?_
          refine LE.u (Un.no 31 67 true rfl rfl rfl rfl) ?_
          refine LE.u (Un.no 31 67 true rfl rfl rfl rfl) ?_
          refine LE.u (Un.no 31 67 true rfl rfl rfl rfl) ?_
          refine LE.u (Un.no 31 67 true rfl rfl rfl rfl) ?_
          refine LE.u (Un.no 31 67 true rfl rfl rfl rfl) ?_
          refine LE.u (Un.no 31 67 true rfl rfl rfl rfl) ?_
          refine LE.u (Un.no 31 67 true rfl rfl rfl rfl) ?_
          refine LE.u (Un.no 31 67 true rfl rfl rfl rfl) ?_
          refine LE.p (v := (Value.bool false)) (Wn.no rfl) rfl (R.pickF rfl rfl) ?_
          refine LE.p (v := (Value.bool false)) (Wn.no rfl) rfl (R.move rfl) ?_
          refine LE.u (Un.no 42 78 true rfl rfl rfl rfl) ?_
          refine LE.u (Un.no 42 78 true rfl rfl rfl rfl) ?_
          refine LE.u (Un.no 42 78 true rfl rfl rfl rfl) ?_
          refine LE.u (Un.no 42 78 true rfl rfl rfl rfl) ?_
          refine LE.u (Un.no 42 78 true rfl rfl rfl rfl) ?_
          refine LE.u (Un.no 42 78 true rfl rfl rfl rfl) ?_
          refine LE.u (Un.no 42 78 true rfl rfl rfl rfl) ?_
          refine LE.u (Un.no 42 78 true rfl rfl rfl rfl) ?_
          refine LE.p (v := (Value.bool false)) (Wn.no rfl) rfl (R.pickF rfl rfl) ?_
          refine LE.p (v := (Value.bool false)) (Wn.no rfl) rfl (R.move rfl) ?_
          refine LE.u (Un.no 52 88 true rfl rfl rfl rfl) ?_
          refine LE.u (Un.no 52 88 true rfl rfl rfl rfl) ?_
          refine LE.u (Un.no 52 88 true rfl rfl rfl rfl) ?_
          refine LE.u (Un.no 52 88 true rfl rfl rfl rfl) ?_
          refine LE.u (Un.no 52 88 true rfl rfl rfl rfl) ?_
          refine LE.u (Un.no 52 88 true rfl rfl rfl rfl) ?_
          refine LE.u (Un.no 52 88 true rfl rfl rfl rfl) ?_
          refine LE.u (Un.no 52 88 true rfl rfl rfl rfl) ?_
          refine LE.p (v := (Value.bool false)) (Wn.no rfl) rfl (R.pickF rfl rfl) ?_
          refine LE.p (v := (Value.bool false)) (Wn.no rfl) rfl (R.move rfl) ?_
          refine LE.u (Un.no 62 98 true rfl rfl rfl rfl) ?_
          refine LE.u (Un.no 62 98 true rfl rfl rfl rfl) ?_
          refine LE.u (Un.no 62 98 true rfl rfl rfl rfl) ?_
          refine LE.u (Un.no 62 98 true rfl rfl rfl rfl) ?_
          refine LE.u (Un.no 62 98 true rfl rfl rfl rfl) ?_
          refine LE.p (v := (Value.bool false)) (Wn.no rfl) rfl (R.pickF rfl rfl) ?_
          refine LE.p (v := (Value.bool false)) (Wn.no rfl) rfl (R.move rfl) ?_
          refine LE.u (Un.no 69 105 true rfl rfl rfl rfl) ?_
          refine LE.u (Un.no 69 105 true rfl rfl rfl rfl) ?_
          refine LE.u (Un.no 69 105 true rfl rfl rfl rfl) ?_
          refine LE.p (v := (Value.bool false)) (Wn.no rfl) rfl (R.pickF rfl rfl) ?_
          refine LE.p (v := (Value.bool false)) (Wn.no rfl) rfl (R.assign rfl) ?_
          refine LE.nil ?_
          exact ⟨_, h, rfl⟩
      · refine LE.u (Un.no 5 41 true rfl rfl rfl (congrArg Value.bool hb38)) ?_
        refine LE.u (Un.no 5 41 true rfl rfl rfl (congrArg Value.bool hb38)) ?_
        refine LE.u (Un.no 5 41 true rfl rfl rfl (congrArg Value.bool hb38)) ?_
        refine LE.u (Un.no 5 41 true rfl rfl rfl (congrArg Value.bool hb38)) ?_
        refine LE.u (Un.no 5 41 true rfl rfl rfl (congrArg Value.bool hb38)) ?_
        refine LE.p (v := (Value.bool false)) (Wn.no rfl) rfl (R.pickF (congrArg Value.bool hb38) rfl) ?_
        refine LE.p (v := (Value.bool false)) (Wn.no rfl) rfl (R.move rfl) ?_
        refine LE.u (Un.no 12 48 true rfl rfl rfl rfl) ?_
        refine LE.u (Un.no 12 48 true rfl rfl rfl rfl) ?_
        refine LE.u (Un.no 12 48 true rfl rfl rfl rfl) ?_
        refine LE.u (Un.no 12 48 true rfl rfl rfl rfl) ?_
        refine LE.u (Un.no 12 48 true rfl rfl rfl rfl) ?_
        refine LE.u (Un.no 12 48 true rfl rfl rfl rfl) ?_
        refine LE.u (Un.no 12 48 true rfl rfl rfl rfl) ?_
        refine LE.p (v := (Value.bool false)) (Wn.no rfl) rfl (R.pickF rfl rfl) ?_
        refine LE.p (v := (Value.bool false)) (Wn.no rfl) rfl (R.move rfl) ?_
        refine LE.u (Un.no 21 57 true rfl rfl rfl rfl) ?_
        refine LE.u (Un.no 21 57 true rfl rfl rfl rfl) ?_
        refine LE.u (Un.no 21 57 true rfl rfl rfl rfl) ?_
        refine LE.p (v := (Value.bool false)) (Wn.no rfl) rfl (R.pickF rfl rfl) ?_
        refine LE.p (v := (Value.bool false)) (Wn.no rfl) rfl (R.move rfl) ?_
        refine LE.u (Un.no 26 62 true rfl rfl rfl rfl) ?_
        refine LE.u (Un.no 26 62 true rfl rfl rfl rfl) ?_
        refine LE.u (Un.no 26 62 true rfl rfl rfl rfl) ?_
        refine LE.p (v := (Value.bool false)) (Wn.no rfl) rfl (R.pickF rfl rfl) ?_
        refine LE.p (v := (Value.bool false)) (Wn.no rfl) rfl (R.move rfl) ?_
        refine LE.u (Un.no 31 67 true rfl rfl rfl rfl) ?_
        refine LE.u (Un.no 31 67 true rfl rfl rfl rfl) ?_
        refine LE.u (Un.no 31 67 true rfl rfl rfl rfl) ?_
        refine LE.u (Un.no 31 67 true rfl rfl rfl rfl) ?_
        refine LE.u (Un.no 31 67 true rfl rfl rfl rfl) ?_
        refine LE.u (Un.no 31 67 true rfl rfl rfl rfl) ?_
        refine LE.u (Un.no 31 67 true rfl rfl rfl rfl) ?_
        refine LE.u (Un.no 31 67 true rfl rfl rfl rfl) ?_
        refine LE.u (Un.no 31 67 true rfl rfl rfl rfl) ?_
        refine LE.p (v := (Value.bool false)) (Wn.no rfl) rfl (R.pickF rfl rfl) ?_
        refine LE.p (v := (Value.bool false)) (Wn.no rfl) rfl (R.move rfl) ?_
        refine LE.u (Un.no 42 78 true rfl rfl rfl rfl) ?_
        refine LE.u (Un.no 42 78 true rfl rfl rfl rfl) ?_
        refine LE.u (Un.no 42 78 true rfl rfl rfl rfl) ?_
        refine LE.u (Un.no 42 78 true rfl rfl rfl rfl) ?_
        refine LE.u (Un.no 42 78 true rfl rfl rfl rfl) ?_
        refine LE.u (Un.no 42 78 true rfl rfl rfl rfl) ?_
        refine LE.u (Un.no 42 78 true rfl rfl rfl rfl) ?_
        refine LE.u (Un.no 42 78 true rfl rfl rfl rfl) ?_
        refine LE.p (v := (Value.bool false)) (Wn.no rfl) rfl (R.pickF rfl rfl) ?_
        refine LE.p (v := (Value.bool false)) (Wn.no rfl) rfl (R.move rfl) ?_
        refine LE.u (Un.no 52 88 true rfl rfl rfl rfl) ?_
        refine LE.u (Un.no 52 88 true rfl rfl rfl rfl) ?_
        refine LE.u (Un.no 52 88 true rfl rfl rfl rfl) ?_
        refine LE.u (Un.no 52 88 true rfl rfl rfl rfl) ?_
        refine LE.u (Un.no 52 88 true rfl rfl rfl rfl) ?_
        refine LE.u (Un.no 52 88 true rfl rfl rfl rfl) ?_
        refine LE.u (Un.no 52 88 true rfl rfl rfl rfl) ?_
        refine LE.u (Un.no 52 88 true rfl rfl rfl rfl) ?_
        refine LE.p (v := (Value.bool false)) (Wn.no rfl) rfl (R.pickF rfl rfl) ?_
        refine LE.p (v := (Value.bool false)) (Wn.no rfl) rfl (R.move rfl) ?_
        refine LE.u (Un.no 62 98 true rfl rfl rfl rfl) ?_
        refine LE.u (Un.no 62 98 true rfl rfl rfl rfl) ?_
        refine LE.u (Un.no 62 98 true rfl rfl rfl rfl) ?_
        refine LE.u (Un.no 62 98 true rfl rfl rfl rfl) ?_
        refine LE.u (Un.no 62 98 true rfl rfl rfl rfl) ?_
        refine LE.p (v := (Value.bool false)) (Wn.no rfl) rfl (R.pickF rfl rfl) ?_
        refine LE.p (v := (Value.bool false)) (Wn.no rfl) rfl (R.move rfl) ?_
        refine LE.u (Un.no 69 105 true rfl rfl rfl rfl) ?_
        refine LE.u (Un.no 69 105 true rfl rfl rfl rfl) ?_
        refine LE.u (Un.no 69 105 true rfl rfl rfl rfl) ?_
        refine LE.p (v := (Value.bool false)) (Wn.no rfl) rfl (R.pickF rfl rfl) ?_
        refine LE.p (v := (Value.bool false)) (Wn.no rfl) rfl (R.assign rfl) ?_
        refine LE.nil ?_
        exact ⟨_, h, rfl⟩
    · rintro e73 w74 ⟨x33, h, f75⟩
      subst hJ32
      refine WE.ret ?_
      exact ⟨_, (Res.tmp f75 Res.nil), _, rfl, h⟩
/-- The formula of signpost.signpostref6.Encode. -/
def F24 (p0 : SV) (K : SV → World → Prop) (w0 : World) : Prop :=
M.loop2 (fun (J3 : SV → Int → World → Prop) (x1 : SV) (x2 : Int) (w4 : World) => 
M.ite (decide (x2 < (p0.len : Int))) (
M.drew w4 fun w15 => 
M.idx p0 x2 2 fun a16 =>
M.idx p0 x2 2 fun a20 =>
M.ld (Value.int .i64) (a16.add (x2.toNat * 2)) w15 fun t24 =>
M.ld SV.v ((a20.add (x2.toNat * 2)).add 1) w15 fun t26 =>
M.new (.cells #[(Value.int .u8 (IntKind.u8.wrap t24)), (Value.int .u8 (IntKind.u8.wrap (t26.len : Int)))] 5) w15 fun b30 w28 =>
M.app Try.prog 40 40 40 x1 (SV.v (SV.mk (some b30) 2 2)) w28 fun s31 w32 =>
M.loop2 (fun (J36 : SV → Int → World → Prop) (x34 : SV) (x35 : Int) (w37 : World) => 
M.idx p0 x2 2 fun a48 =>
M.ld SV.v ((a48.add (x2.toNat * 2)).add 1) w37 fun t52 =>
M.ite (decide (x35 < (t52.len : Int))) (
M.idx p0 x2 2 fun a55 =>
M.ld SV.v ((a55.add (x2.toNat * 2)).add 1) w37 fun t59 =>
M.idx t59 x35 1 fun a61 =>
M.ld (Value.int .u32) (a61.add (x35.toNat * 1)) w37 fun t65 =>
Calls Try.prog 47 #[(SV.v x34), (Value.int .u32 t65)] w37 (R47 fun r67 w68 =>
J36 r67 (IntKind.i64.wrap (x35 + (1 : Int))) w68)) (
J3 x34 (IntKind.i64.wrap (x2 + (1 : Int))) w37)) s31 (0 : Int) w32) (
K x1 w4)) SV.nil (0 : Int) w0
theorem F24_ok {w0 : World} {p0 : SV} {K : SV → World → Prop} (h : F24 p0 K w0) : Calls Try.prog 24 #[(SV.v p0)] w0 (R24 K) := by
  refine calls_of_WE (args := [(SV.v p0)]) (rs := [.tmp 2]) Try.func24 rfl (N := 49) rfl rfl rfl rfl ?_
  refine WE.seq ?_
  refine WE.reg ?_
  refine LE.p (v := (SV.v SV.nil)) (Wn.no rfl) rfl (R.assign rfl) ?_
  refine LE.nil ?_
  refine WE.seq ?_
  refine WE.reg ?_
  refine LE.p (v := (SV.v SV.nil)) (Wn.no rfl) rfl (R.assign rfl) ?_
  refine LE.nil ?_
  refine WE.seq ?_
  refine WE.seq ?_
  refine WE.reg ?_
  refine LE.p (v := (Value.int .i64 (0 : Int))) (Wn.no rfl) rfl (R.assign rfl) ?_
  refine LE.nil ?_
  refine WE.block ?_
  obtain ⟨I7, ⟨n6, h⟩, hr8⟩ := h
  refine WE.loop (fun n e w => ∃ (x1 : SV) (x2 : Int), I7 n x1 x2 w ∧ e 0 = (SV.v p0) ∧ e 3 = (SV.v x1) ∧ e 4 = (Value.int .i64 x2)) n6 ⟨_, _, h, rfl, rfl, rfl⟩ ?_
  clear h
  rintro n6 e5 w4 ⟨x1, x2, h, f11, f12, f13⟩
  replace h := hr8 n6 x1 x2 w4 h
  refine WE.seq ?_
  refine WE.seq ?_
  refine WE.reg ?_
  refine LE.p (v := (Value.int .i64 x2)) (Wn.no rfl) rfl (R.move f13) ?_
  refine LE.p (v := (SV.v p0)) (Wn.no rfl) rfl (R.move f11) ?_
  refine LE.p (v := (Value.int .i64 (p0.len : Int))) (Wn.no rfl) rfl (R.len sl24 rfl) ?_
  refine LE.p (v := (Value.bool (decide (x2 < (p0.len : Int))))) (Wn.no rfl) rfl (R.lss rfl rfl) ?_
  refine LE.nil ?_
  refine WE.condT rfl (b := (decide (x2 < (p0.len : Int)))) rfl ?_ ?_
  · intro hb14
    replace h := M.ite_t h hb14
    refine WE.skip ?_
    refine WE.seq ?_
    refine WE.block ?_
    refine WE.seq ?_
    refine WE.draw mix ?_
    obtain ⟨w15, hww15, h⟩ := M.drew_use h
    rw [← hww15]
    clear hww15
    refine DE.t 0 (v := (SV.v x1)) rfl (by kernel_rfl) (Wn.no rfl) rfl (R.move f12) ?_
    refine DE.t 1 (v := (SV.v p0)) rfl (by kernel_rfl) (Wn.no rfl) rfl (R.move f11) ?_
    refine DE.t 2 (v := (Value.int .i64 x2)) rfl (by kernel_rfl) (Wn.no rfl) rfl (R.move f13) ?_
    obtain ⟨a16, h17, h18, h19, h⟩ := h
    refine DE.t 3 (v := (Value.pointer (some (a16.add (x2.toNat * 2))))) rfl (by kernel_rfl) (Wn.no rfl) rfl (R.idx (s := p0) sl24 rfl rfl h17 h18 h19) ?_
    refine DE.t 4 (v := (Value.pointer (some (a16.add (x2.toNat * 2))))) rfl (by kernel_rfl) (Wn.no rfl) rfl (R.fld (off := 0) fa27_0 rfl) ?_
    refine DE.t 7 (v := (SV.v p0)) rfl (by kernel_rfl) (Wn.no rfl) rfl (R.move f11) ?_
    refine DE.t 8 (v := (Value.int .i64 x2)) rfl (by kernel_rfl) (Wn.no rfl) rfl (R.move f13) ?_
    obtain ⟨a20, h21, h22, h23, h⟩ := h
    refine DE.t 9 (v := (Value.pointer (some (a20.add (x2.toNat * 2))))) rfl (by kernel_rfl) (Wn.no rfl) rfl (R.idx (s := p0) sl24 rfl rfl h21 h22 h23) ?_
    refine DE.t 10 (v := (Value.pointer (some ((a20.add (x2.toNat * 2)).add 1)))) rfl (by kernel_rfl) (Wn.no rfl) rfl (R.fld (off := 1) fa27_1 rfl) ?_
    obtain ⟨t24, h25, h⟩ := h
    refine DE.hold 5 (fun w => w.cell? (a16.add (x2.toNat * 2)) = some (Value.int .i64 t24)) (v := (Value.int .i64 t24)) rfl (by kernel_rfl) (Wn.no rfl) rfl h25 (fun w hs => R.ld sc3 rfl hs) ?_
    refine DE.t 6 (v := (Value.int .u8 (IntKind.u8.wrap t24))) rfl (by kernel_rfl) (Wn.no rfl) rfl (R.conv in5 in3 rfl) ?_
    obtain ⟨t26, h27, h⟩ := h
    refine DE.main 11 (by kernel_rfl) ?_
    refine One.r 11 (v := (SV.v t26)) rfl (Wn.no rfl) rfl (R.ld sc25 rfl h27) (.inl rfl) ?_
    refine DE.t 12 (v := (Value.int .i64 (t26.len : Int))) rfl (by kernel_rfl) (Wn.no rfl) rfl (R.len sl25 rfl) ?_
    refine DE.t 13 (v := (Value.int .u8 (IntKind.u8.wrap (t26.len : Int)))) rfl (by kernel_rfl) (Wn.no rfl) rfl (R.conv in5 in3 rfl) ?_
    obtain ⟨b30, hpb30, w28, hww28, h⟩ := M.new_use h
    refine DE.main 14 (by kernel_rfl) ?_
    refine One.r 14 (v := (SV.v (SV.mk (some b30) 2 2))) rfl (Wn.no rfl) rfl (R.bsl (by exact (Ls.cons (R.Pr rfl) (Ls.cons (R.Pr rfl) Ls.nil))) (fun w => bs40_2 (IntKind.u8.wrap t24) (IntKind.u8.wrap (t26.len : Int)) w) hpb30 hww28) (.inr ⟨aftT (by kernel_rfl), trivial⟩) ?_
    obtain ⟨s31, w32, h33, h⟩ := h
    refine DE.main 15 (by kernel_rfl) ?_
    refine One.r 15 (v := (SV.v s31)) rfl (Wn.no rfl) rfl (R.app (s := x1) (r := s31) rfl rfl h33) (.inr ⟨aftT (by kernel_rfl), trivial⟩) ?_
    refine DE.t 16 (v := (SV.v s31)) rfl (by kernel_rfl) (Wn.no rfl) rfl (R.assign rfl) ?_
    refine DE.done (by kernel_rfl) ?_
    refine WE.seq ?_
    refine WE.reg ?_
    refine LE.p (v := (Value.int .i64 (0 : Int))) (Wn.no rfl) rfl (R.assign rfl) ?_
    refine LE.nil ?_
    refine WE.block ?_
    obtain ⟨I40, ⟨n39, h⟩, hr41⟩ := h
    refine WE.loop (fun n e w => ∃ (x34 : SV) (x35 : Int), I40 n x34 x35 w ∧ e 0 = (SV.v p0) ∧ e 3 = (SV.v x34) ∧ e 4 = (Value.int .i64 x2) ∧ e 5 = (Value.int .i64 x35)) n39 ⟨_, _, h, f11, rfl, f13, rfl⟩ ?_
    clear h
    rintro n39 e38 w37 ⟨x34, x35, h, f44, f45, f46, f47⟩
    replace h := hr41 n39 x34 x35 w37 h
    refine WE.seq ?_
    refine WE.seq ?_
    refine WE.reg ?_
    refine LE.p (v := (Value.int .i64 x35)) (Wn.no rfl) rfl (R.move f47) ?_
    refine LE.p (v := (SV.v p0)) (Wn.no rfl) rfl (R.move f44) ?_
    refine LE.p (v := (Value.int .i64 x2)) (Wn.no rfl) rfl (R.move f46) ?_
    obtain ⟨a48, h49, h50, h51, h⟩ := h
    refine LE.p (v := (Value.pointer (some (a48.add (x2.toNat * 2))))) (Wn.no rfl) rfl (R.idx (s := p0) sl24 rfl rfl h49 h50 h51) ?_
    refine LE.p (v := (Value.pointer (some ((a48.add (x2.toNat * 2)).add 1)))) (Wn.no rfl) rfl (R.fld (off := 1) fa27_1 rfl) ?_
    obtain ⟨t52, h53, h⟩ := h
    refine LE.r (v := (SV.v t52)) (Wn.no rfl) rfl (R.ld sc25 rfl h53) ?_
    refine LE.p (v := (Value.int .i64 (t52.len : Int))) (Wn.no rfl) rfl (R.len sl25 rfl) ?_
    refine LE.p (v := (Value.bool (decide (x35 < (t52.len : Int))))) (Wn.no rfl) rfl (R.lss rfl rfl) ?_
    refine LE.nil ?_
    refine WE.condT rfl (b := (decide (x35 < (t52.len : Int)))) rfl ?_ ?_
    · intro hb54
      replace h := M.ite_t h hb54
      refine WE.skip ?_
      refine WE.seq ?_
      refine WE.block ?_
      refine WE.reg ?_
      refine LE.p (v := (SV.v x34)) (Wn.no rfl) rfl (R.move f45) ?_
      refine LE.p (v := (SV.v p0)) (Wn.no rfl) rfl (R.move f44) ?_
      refine LE.p (v := (Value.int .i64 x2)) (Wn.no rfl) rfl (R.move f46) ?_
      obtain ⟨a55, h56, h57, h58, h⟩ := h
      refine LE.p (v := (Value.pointer (some (a55.add (x2.toNat * 2))))) (Wn.no rfl) rfl (R.idx (s := p0) sl24 rfl rfl h56 h57 h58) ?_
      refine LE.p (v := (Value.pointer (some ((a55.add (x2.toNat * 2)).add 1)))) (Wn.no rfl) rfl (R.fld (off := 1) fa27_1 rfl) ?_
      obtain ⟨t59, h60, h⟩ := h
      refine LE.r (v := (SV.v t59)) (Wn.no rfl) rfl (R.ld sc25 rfl h60) ?_
      refine LE.p (v := (Value.int .i64 x35)) (Wn.no rfl) rfl (R.move f47) ?_
      obtain ⟨a61, h62, h63, h64, h⟩ := h
      refine LE.p (v := (Value.pointer (some (a61.add (x35.toNat * 1))))) (Wn.no rfl) rfl (R.idx (s := t59) sl25 rfl rfl h62 h63 h64) ?_
      obtain ⟨t65, h66, h⟩ := h
      refine LE.r (v := (Value.int .u32 t65)) (Wn.no rfl) rfl (R.ld sc23 rfl h66) ?_
      refine LE.c (Wn.no rfl) rfl (R.call bd47 (Ls.cons rfl (Ls.cons rfl Ls.nil)) rfl) (Calls.mono h ?_)
      rintro _ w68 ⟨r67, rfl, h⟩
      refine ⟨_, rfl, ?_⟩
      refine LE.p (v := (SV.v r67)) (Wn.no rfl) rfl (R.assign rfl) ?_
      refine LE.nil ?_
      refine WE.reg ?_
      refine LE.p (v := (Value.int .i64 x35)) (Wn.no rfl) rfl (R.move f47) ?_
      refine LE.p (v := (Value.int .i64 (IntKind.i64.wrap (x35 + (1 : Int))))) (Wn.no rfl) rfl (R.add rfl rfl) ?_
      refine LE.p (v := (Value.int .i64 (IntKind.i64.wrap (x35 + (1 : Int))))) (Wn.no rfl) rfl (R.assign rfl) ?_
      refine LE.nil ?_
      obtain ⟨m42, hm43, h⟩ := h
      exact ⟨m42, hm43, _, _, h, f44, rfl, f46, rfl⟩
    · intro hb54
      replace h := M.ite_f h hb54
      refine WE.exit ?_
      refine WE.reg ?_
      refine LE.p (v := (Value.int .i64 x2)) (Wn.no rfl) rfl (R.move f46) ?_
      refine LE.p (v := (Value.int .i64 (IntKind.i64.wrap (x2 + (1 : Int))))) (Wn.no rfl) rfl (R.add rfl rfl) ?_
      refine LE.p (v := (Value.int .i64 (IntKind.i64.wrap (x2 + (1 : Int))))) (Wn.no rfl) rfl (R.assign rfl) ?_
      refine LE.nil ?_
      obtain ⟨m9, hm10, h⟩ := h
      exact ⟨m9, hm10, _, _, h, f44, f45, rfl⟩
  · intro hb14
    replace h := M.ite_f h hb14
    refine WE.exit ?_
    refine WE.seq ?_
    refine WE.reg ?_
    refine LE.p (v := (SV.v x1)) (Wn.no rfl) rfl (R.move f12) ?_
    refine LE.p (v := (SV.v x1)) (Wn.no rfl) rfl (R.assign rfl) ?_
    refine LE.nil ?_
    refine WE.ret ?_
    exact ⟨_, (Res.tmp rfl Res.nil), _, rfl, h⟩
/-- The formula of signpost.signpostlaw6.read. -/
def F25 (p0 : SV) (K : Bool → World → Prop) (w0 : World) : Prop :=
Calls Try.prog 20 #[(SV.v p0)] w0 (R20 fun r1 r2 w3 =>
Calls Try.prog 48 #[(SV.v p0)] w3 (R48 fun r4 r5 w6 =>
M.join (fun (x8 : Bool) (w13 : World) => 
K x8 w13) fun J7 => 
Calls Try.prog 21 #[(SV.v r1), (SV.v r4)] w6 (R21 fun r9 w10 =>
M.ite r9 (
J7 (r2 == r5) w10) (
J7 false w10))))
theorem F25_ok {w0 : World} {p0 : SV} {K : Bool → World → Prop} (h : F25 p0 K w0) : Calls Try.prog 25 #[(SV.v p0)] w0 (R25 K) := by
  refine calls_of_WE (args := [(SV.v p0)]) (rs := [.tmp 2]) Try.func25 rfl (N := 25) rfl rfl rfl rfl ?_
  refine WE.seq ?_
  refine WE.reg ?_
  refine LE.p (v := (Value.bool false)) (Wn.no rfl) rfl (R.assign rfl) ?_
  refine LE.nil ?_
  refine WE.seq ?_
  refine WE.reg ?_
  refine LE.p (v := (SV.v p0)) (Wn.no rfl) rfl (R.move rfl) ?_
  refine LE.c (Wn.no rfl) rfl (R.call bd20 (Ls.cons rfl Ls.nil) rfl) (Calls.mono h ?_)
  rintro _ w3 ⟨r1, r2, rfl, h⟩
  refine ⟨_, rfl, ?_⟩
  refine LE.p (v := (Value.tuple #[(SV.v r1), (Value.bool r2)])) (Wn.no rfl) rfl (R.move rfl) ?_
  refine LE.p (v := (SV.v r1)) (Wn.no rfl) rfl (R.ext rfl rfl) ?_
  refine LE.p (v := (Value.bool r2)) (Wn.no rfl) rfl (R.ext rfl rfl) ?_
  refine LE.p (v := (SV.v r1)) (Wn.no rfl) rfl (R.assign rfl) ?_
  refine LE.p (v := (Value.bool r2)) (Wn.no rfl) rfl (R.assign rfl) ?_
  refine LE.nil ?_
  refine WE.seq ?_
  refine WE.reg ?_
  refine LE.p (v := (SV.v p0)) (Wn.no rfl) rfl (R.move rfl) ?_
  refine LE.c (Wn.no rfl) rfl (R.call bd48 (Ls.cons rfl Ls.nil) rfl) (Calls.mono h ?_)
  rintro _ w6 ⟨r4, r5, rfl, h⟩
  refine ⟨_, rfl, ?_⟩
  refine LE.p (v := (Value.tuple #[(SV.v r4), (Value.bool r5)])) (Wn.no rfl) rfl (R.move rfl) ?_
  refine LE.p (v := (SV.v r4)) (Wn.no rfl) rfl (R.ext rfl rfl) ?_
  refine LE.p (v := (Value.bool r5)) (Wn.no rfl) rfl (R.ext rfl rfl) ?_
  refine LE.p (v := (SV.v r4)) (Wn.no rfl) rfl (R.assign rfl) ?_
  refine LE.p (v := (Value.bool r5)) (Wn.no rfl) rfl (R.assign rfl) ?_
  refine LE.nil ?_
  refine WE.seq ?_
  obtain ⟨J7, hJ7, h⟩ := M.join_use h
  refine WE.regJ (fun e w => ∃ (x8 : Bool), J7 x8 w ∧ e 2 = (Value.bool x8)) ?_ ?_
  · clear hJ7
    refine LE.p (v := (SV.v r1)) (Wn.no rfl) rfl (R.move rfl) ?_
    refine LE.p (v := (SV.v r4)) (Wn.no rfl) rfl (R.move rfl) ?_
    refine LE.c (Wn.no rfl) rfl (R.call bd21 (Ls.cons rfl (Ls.cons rfl Ls.nil)) rfl) (Calls.mono h ?_)
    rintro _ w10 ⟨r9, rfl, h⟩
    refine ⟨_, rfl, ?_⟩
    refine LE.p (v := (Value.bool r9)) (Wn.no rfl) rfl (R.move rfl) ?_
    rcases M.ite_use h with ⟨hb11, h⟩ | ⟨hb11, h⟩
    · refine LE.p (v := (Value.bool r2)) (Wn.yes 3 20 true rfl rfl rfl (congrArg Value.bool hb11)) rfl (R.move rfl) ?_
      refine LE.p (v := (Value.bool r5)) (Wn.yes 3 20 true rfl rfl rfl (congrArg Value.bool hb11)) rfl (R.move rfl) ?_
      refine LE.p (v := (Value.bool (r2 == r5))) (Wn.yes 3 20 true rfl rfl rfl (congrArg Value.bool hb11)) rfl (R.beql bo4 rfl rfl) ?_
      refine LE.p (v := (Value.bool (r2 == r5))) (Wn.no rfl) rfl (R.pickT (congrArg Value.bool hb11) rfl) ?_
      refine LE.p (v := (Value.bool (r2 == r5))) (Wn.no rfl) rfl (R.assign rfl) ?_
      refine LE.nil ?_
      exact ⟨_, h, rfl⟩
    · refine LE.u (Un.no 3 20 true rfl rfl rfl (congrArg Value.bool hb11)) ?_
      refine LE.u (Un.no 3 20 true rfl rfl rfl (congrArg Value.bool hb11)) ?_
      refine LE.u (Un.no 3 20 true rfl rfl rfl (congrArg Value.bool hb11)) ?_
      refine LE.p (v := (Value.bool false)) (Wn.no rfl) rfl (R.pickF (congrArg Value.bool hb11) rfl) ?_
      refine LE.p (v := (Value.bool false)) (Wn.no rfl) rfl (R.assign rfl) ?_
      refine LE.nil ?_
      exact ⟨_, h, rfl⟩
  · rintro e12 w13 ⟨x8, h, f14⟩
    subst hJ7
    refine WE.ret ?_
    exact ⟨_, (Res.tmp f14 Res.nil), _, rfl, h⟩
/-- The formula of signpost.signpostlaw6.short. -/
def F26 (p0 : SV) (K : SV → World → Prop) (w0 : World) : Prop :=
M.join (fun (x2 : SV) (w9 : World) => 
M.loop2 (fun (J13 : SV → Int → World → Prop) (x11 : SV) (x12 : Int) (w14 : World) => 
M.ite (decide (x12 < (x2.len : Int))) (
M.idx x2 x12 2 fun a25 =>
M.ld (Value.int .i64) (a25.add (x12.toNat * 2)) w14 fun t29 =>
M.ld SV.v ((a25.add (x12.toNat * 2)).add 1) w14 fun t31 =>
M.new (.cells #[(Value.int .i64 (0 : Int)), (SV.v SV.nil)] 27) w14 fun b34 w33 =>
M.stA b34 [(Value.int .i64 t29), (SV.v t31)] w33 fun w35 =>
M.join (fun (w51 : World) => 
M.ld (Value.int .i64) b34 w51 fun t56 =>
M.ld SV.v (b34.add 1) w51 fun t58 =>
M.new (.cells #[(Value.int .i64 t56), (SV.v t58)] 27) w51 fun b62 w60 =>
M.app Try.prog 24 24 24 x11 (SV.v (SV.mk (some b62) 1 1)) w60 fun s63 w64 =>
J13 s63 (IntKind.i64.wrap (x12 + (1 : Int))) w64) fun J37 => 
M.ld SV.v (b34.add 1) w35 fun t38 =>
M.ite (decide ((257 : Int) < (t38.len : Int))) (
M.ld SV.v (b34.add 1) w35 fun t41 =>
M.bnd (0 : Int) (257 : Int) t41 <|
M.st (b34.add 1) (SV.v (SV.sub t41 (Int.toNat (0 : Int)) (Int.toNat (257 : Int)) 1)) w35 fun w47 =>
J37 w47) (
J37 w35)) (
K x11 w14)) SV.nil (0 : Int) w9) fun J1 => 
M.ite (decide ((18 : Int) < (p0.len : Int))) (
M.bnd (0 : Int) (18 : Int) p0 <|
J1 (SV.sub p0 (Int.toNat (0 : Int)) (Int.toNat (18 : Int)) 2) w0) (
J1 p0 w0)
theorem F26_ok {w0 : World} {p0 : SV} {K : SV → World → Prop} (h : F26 p0 K w0) : Calls Try.prog 26 #[(SV.v p0)] w0 (R26 K) := by
  refine calls_of_WE (args := [(SV.v p0)]) (rs := [.tmp 2]) Try.func26 rfl (N := 34) rfl rfl rfl rfl ?_
  refine WE.seq ?_
  refine WE.reg ?_
  refine LE.p (v := (SV.v SV.nil)) (Wn.no rfl) rfl (R.assign rfl) ?_
  refine LE.nil ?_
  obtain ⟨J1, hJ1, h⟩ := M.join_use h
  refine WE.join (fun e w => ∃ (x2 : SV), J1 x2 w ∧ e 0 = (SV.v x2)) ?_ ?_
  · clear hJ1
    refine WE.seq ?_
    refine WE.reg ?_
    refine LE.p (v := (SV.v p0)) (Wn.no rfl) rfl (R.move rfl) ?_
    refine LE.p (v := (Value.int .i64 (p0.len : Int))) (Wn.no rfl) rfl (R.len sl24 rfl) ?_
    refine LE.p (v := (Value.bool (decide ((18 : Int) < (p0.len : Int))))) (Wn.no rfl) rfl (R.gtr rfl rfl) ?_
    refine LE.nil ?_
    refine WE.condT rfl (b := (decide ((18 : Int) < (p0.len : Int)))) rfl ?_ ?_
    · intro hb3
      replace h := M.ite_t h hb3
      refine WE.reg ?_
      refine LE.p (v := (SV.v p0)) (Wn.no rfl) rfl (R.move rfl) ?_
      obtain ⟨h4, h5, h6, h⟩ := h
      refine LE.p (v := (SV.v (SV.sub p0 (Int.toNat (0 : Int)) (Int.toNat (18 : Int)) 2))) (Wn.no rfl) rfl (R.slc (s := p0) (lo := (0 : Int)) (hi := (18 : Int)) _ _ sl24 rfl rfl rfl h4 h5 h6) ?_
      refine LE.p (v := (SV.v (SV.sub p0 (Int.toNat (0 : Int)) (Int.toNat (18 : Int)) 2))) (Wn.no rfl) rfl (R.assign rfl) ?_
      refine LE.nil ?_
      exact ⟨_, h, rfl⟩
    · intro hb3
      replace h := M.ite_f h hb3
      refine WE.skip ?_
      exact ⟨_, h, rfl⟩
  · rintro e8 w9 ⟨x2, h, f10⟩
    subst hJ1
    refine WE.seq ?_
    refine WE.reg ?_
    refine LE.p (v := (SV.v SV.nil)) (Wn.no rfl) rfl (R.assign rfl) ?_
    refine LE.nil ?_
    refine WE.seq ?_
    refine WE.seq ?_
    refine WE.reg ?_
    refine LE.p (v := (Value.int .i64 (0 : Int))) (Wn.no rfl) rfl (R.assign rfl) ?_
    refine LE.nil ?_
    refine WE.block ?_
    obtain ⟨I17, ⟨n16, h⟩, hr18⟩ := h
    refine WE.loop (fun n e w => ∃ (x11 : SV) (x12 : Int), I17 n x11 x12 w ∧ e 0 = (SV.v x2) ∧ e 3 = (SV.v x11) ∧ e 4 = (Value.int .i64 x12)) n16 ⟨_, _, h, f10, rfl, rfl⟩ ?_
    clear h
    rintro n16 e15 w14 ⟨x11, x12, h, f21, f22, f23⟩
    replace h := hr18 n16 x11 x12 w14 h
    refine WE.seq ?_
    refine WE.seq ?_
    refine WE.reg ?_
    refine LE.p (v := (Value.int .i64 x12)) (Wn.no rfl) rfl (R.move f23) ?_
    refine LE.p (v := (SV.v x2)) (Wn.no rfl) rfl (R.move f21) ?_
    refine LE.p (v := (Value.int .i64 (x2.len : Int))) (Wn.no rfl) rfl (R.len sl24 rfl) ?_
    refine LE.p (v := (Value.bool (decide (x12 < (x2.len : Int))))) (Wn.no rfl) rfl (R.lss rfl rfl) ?_
    refine LE.nil ?_
    refine WE.condT rfl (b := (decide (x12 < (x2.len : Int)))) rfl ?_ ?_
    · intro hb24
      replace h := M.ite_t h hb24
      refine WE.skip ?_
      refine WE.seq ?_
      refine WE.block ?_
      refine WE.seq ?_
      refine WE.reg ?_
      refine LE.p (v := (SV.v x2)) (Wn.no rfl) rfl (R.move f21) ?_
      refine LE.p (v := (Value.int .i64 x12)) (Wn.no rfl) rfl (R.move f23) ?_
      obtain ⟨a25, h26, h27, h28, h⟩ := h
      refine LE.p (v := (Value.pointer (some (a25.add (x12.toNat * 2))))) (Wn.no rfl) rfl (R.idx (s := x2) sl24 rfl rfl h26 h27 h28) ?_
      obtain ⟨t29, h30, h⟩ := h
      obtain ⟨t31, h32, h⟩ := h
      refine LE.r (v := (Value.agg #[(Value.int .i64 t29), (SV.v t31)])) (Wn.no rfl) rfl (R.ldA ag27 sz27 rfl rfl (Cs.cons h30 (Cs.cons h32 Cs.nil))) ?_
      obtain ⟨b34, hpb34, w33, hww33, h⟩ := M.new_use h
      refine LE.r (v := (Value.pointer (some b34))) (Wn.no rfl) rfl (R.alloc (cs := #[(Value.int .i64 (0 : Int)), (SV.v SV.nil)]) ze27 rfl hpb34 hww33) ?_
      obtain ⟨w35, hww35, h36, h⟩ := M.stA_use h
      refine LE.s (Wn.no rfl) rfl (R.stA (a := b34) [(Value.int .i64 t29), (SV.v t31)] sz27 rfl rfl rfl (by simp [Value.oneCell']) h36 hww35) ?_
      refine LE.nil ?_
      obtain ⟨J37, hJ37, h⟩ := M.join_use h
      refine WE.join (fun e w => J37 w ∧ e 0 = (SV.v x2) ∧ e 3 = (SV.v x11) ∧ e 4 = (Value.int .i64 x12) ∧ e 5 = (Value.pointer (some b34))) ?_ ?_
      · clear hJ37
        refine WE.seq ?_
        refine WE.reg ?_
        refine LE.p (v := (Value.pointer (some (b34.add 1)))) (Wn.no rfl) rfl (R.fld (off := 1) fa27_1 rfl) ?_
        obtain ⟨t38, h39, h⟩ := h
        refine LE.r (v := (SV.v t38)) (Wn.no rfl) rfl (R.ld sc25 rfl h39) ?_
        refine LE.p (v := (Value.int .i64 (t38.len : Int))) (Wn.no rfl) rfl (R.len sl25 rfl) ?_
        refine LE.p (v := (Value.bool (decide ((257 : Int) < (t38.len : Int))))) (Wn.no rfl) rfl (R.gtr rfl rfl) ?_
        refine LE.nil ?_
        refine WE.condT rfl (b := (decide ((257 : Int) < (t38.len : Int)))) rfl ?_ ?_
        · intro hb40
          replace h := M.ite_t h hb40
          refine WE.reg ?_
          refine LE.p (v := (Value.pointer (some (b34.add 1)))) (Wn.no rfl) rfl (R.fld (off := 1) fa27_1 rfl) ?_
          obtain ⟨t41, h42, h⟩ := h
          refine LE.r (v := (SV.v t41)) (Wn.no rfl) rfl (R.ld sc25 rfl h42) ?_
          obtain ⟨h43, h44, h45, h⟩ := h
          refine LE.p (v := (SV.v (SV.sub t41 (Int.toNat (0 : Int)) (Int.toNat (257 : Int)) 1))) (Wn.no rfl) rfl (R.slc (s := t41) (lo := (0 : Int)) (hi := (257 : Int)) _ _ sl25 rfl rfl rfl h43 h44 h45) ?_
          refine LE.p (v := (Value.pointer (some (b34.add 1)))) (Wn.no rfl) rfl (R.fld (off := 1) fa27_1 rfl) ?_
          obtain ⟨w47, hww47, h48, h49, h⟩ := M.st_use h
          refine LE.s (Wn.no rfl) rfl (R.st (a := (b34.add 1)) (v := (SV.v (SV.sub t41 (Int.toNat (0 : Int)) (Int.toNat (257 : Int)) 1))) sz25 rfl rfl rfl rfl h48 h49 hww47) ?_
          refine LE.nil ?_
          exact ⟨h, f21, f22, f23, rfl⟩
        · intro hb40
          replace h := M.ite_f h hb40
          refine WE.skip ?_
          exact ⟨h, f21, f22, f23, rfl⟩
      · rintro e50 w51 ⟨h, f52, f53, f54, f55⟩
        subst hJ37
        refine WE.reg ?_
        refine LE.p (v := (SV.v x11)) (Wn.no rfl) rfl (R.move f53) ?_
        obtain ⟨t56, h57, h⟩ := h
        obtain ⟨t58, h59, h⟩ := h
        refine LE.r (v := (Value.agg #[(Value.int .i64 t56), (SV.v t58)])) (Wn.no rfl) rfl (R.ldA ag27 sz27 f55 rfl (Cs.cons h57 (Cs.cons h59 Cs.nil))) ?_
        obtain ⟨b62, hpb62, w60, hww60, h⟩ := M.new_use h
        refine LE.r (v := (SV.v (SV.mk (some b62) 1 1))) (Wn.no rfl) rfl (R.bsl (by exact (Ls.cons (R.Pr rfl) Ls.nil)) (fun w => bs24_1 t56 t58 w) hpb62 hww60) ?_
        obtain ⟨s63, w64, h65, h⟩ := h
        refine LE.r (v := (SV.v s63)) (Wn.no rfl) rfl (R.app (s := x11) (r := s63) rfl rfl h65) ?_
        refine LE.p (v := (SV.v s63)) (Wn.no rfl) rfl (R.assign rfl) ?_
        refine LE.nil ?_
        refine WE.reg ?_
        refine LE.p (v := (Value.int .i64 x12)) (Wn.no rfl) rfl (R.move f54) ?_
        refine LE.p (v := (Value.int .i64 (IntKind.i64.wrap (x12 + (1 : Int))))) (Wn.no rfl) rfl (R.add rfl rfl) ?_
        refine LE.p (v := (Value.int .i64 (IntKind.i64.wrap (x12 + (1 : Int))))) (Wn.no rfl) rfl (R.assign rfl) ?_
        refine LE.nil ?_
        obtain ⟨m19, hm20, h⟩ := h
        exact ⟨m19, hm20, _, _, h, f52, rfl, rfl⟩
    · intro hb24
      replace h := M.ite_f h hb24
      refine WE.exit ?_
      refine WE.seq ?_
      refine WE.reg ?_
      refine LE.p (v := (SV.v x11)) (Wn.no rfl) rfl (R.move f22) ?_
      refine LE.p (v := (SV.v x11)) (Wn.no rfl) rfl (R.assign rfl) ?_
      refine LE.nil ?_
      refine WE.ret ?_
      exact ⟨_, (Res.tmp rfl Res.nil), _, rfl, h⟩
/-- The formula of signpost.aspath.Copy. -/
def F27 (p0 : SV) (K : SV → World → Prop) (w0 : World) : Prop :=
M.loop2 (fun (J3 : SV → Int → World → Prop) (x1 : SV) (x2 : Int) (w4 : World) => 
M.ite (decide (x2 < (p0.len : Int))) (
M.idx p0 x2 2 fun a16 =>
M.ld (Value.int .i64) (a16.add (x2.toNat * 2)) w4 fun t20 =>
M.ld SV.v ((a16.add (x2.toNat * 2)).add 1) w4 fun t22 =>
M.new (.cells #[(Value.int .i64 (0 : Int)), (SV.v SV.nil)] 27) w4 fun b25 w24 =>
M.stA b25 [(Value.int .i64 t20), (SV.v t22)] w24 fun w26 =>
M.drew w26 fun w28 => 
M.ld (Value.int .i64) b25 w28 fun t29 =>
M.ld SV.v (b25.add 1) w28 fun t31 =>
Calls Try.prog 49 #[(SV.v t31)] w28 (R49 fun r33 w34 =>
M.keep (w34.cell? b25 = some (Value.int .i64 t29)) <|
M.new (.cells #[(Value.int .i64 t29), (SV.v r33)] 27) w34 fun b38 w36 =>
M.app Try.prog 24 24 24 x1 (SV.v (SV.mk (some b38) 1 1)) w36 fun s39 w40 =>
J3 s39 (IntKind.i64.wrap (x2 + (1 : Int))) w40)) (
K x1 w4)) SV.nil (0 : Int) w0
theorem F27_ok {w0 : World} {p0 : SV} {K : SV → World → Prop} (h : F27 p0 K w0) : Calls Try.prog 27 #[(SV.v p0)] w0 (R27 K) := by
  refine calls_of_WE (args := [(SV.v p0)]) (rs := [.tmp 2]) Try.func27 rfl (N := 23) rfl rfl rfl rfl ?_
  refine WE.seq ?_
  refine WE.reg ?_
  refine LE.p (v := (SV.v SV.nil)) (Wn.no rfl) rfl (R.assign rfl) ?_
  refine LE.nil ?_
  refine WE.seq ?_
  refine WE.reg ?_
  refine LE.p (v := (SV.v SV.nil)) (Wn.no rfl) rfl (R.assign rfl) ?_
  refine LE.nil ?_
  refine WE.seq ?_
  refine WE.seq ?_
  refine WE.reg ?_
  refine LE.p (v := (SV.v p0)) (Wn.no rfl) rfl (R.move rfl) ?_
  refine LE.p (v := (Value.int .i64 (p0.len : Int))) (Wn.no rfl) rfl (R.len sl24 rfl) ?_
  refine LE.p (v := (Value.int .i64 (0 : Int))) (Wn.no rfl) rfl (R.move rfl) ?_
  refine LE.nil ?_
  refine WE.block ?_
  obtain ⟨I7, ⟨n6, h⟩, hr8⟩ := h
  refine WE.loop (fun n e w => ∃ (x1 : SV) (x2 : Int), I7 n x1 x2 w ∧ e 3 = (SV.v x1) ∧ e 6 = (SV.v p0) ∧ e 7 = (Value.int .i64 (p0.len : Int)) ∧ e 8 = (Value.int .i64 x2)) n6 ⟨_, _, h, rfl, rfl, rfl, rfl⟩ ?_
  clear h
  rintro n6 e5 w4 ⟨x1, x2, h, f11, f12, f13, f14⟩
  replace h := hr8 n6 x1 x2 w4 h
  refine WE.seq ?_
  refine WE.reg ?_
  refine LE.p (v := (Value.bool (decide (x2 < (p0.len : Int))))) (Wn.no rfl) rfl (R.lss f14 f13) ?_
  refine LE.nil ?_
  refine WE.seq ?_
  refine WE.condT rfl (b := (decide (x2 < (p0.len : Int)))) rfl ?_ ?_
  · intro hb15
    replace h := M.ite_t h hb15
    refine WE.skip ?_
    refine WE.seq ?_
    refine WE.block ?_
    refine WE.seq ?_
    refine WE.reg ?_
    obtain ⟨a16, h17, h18, h19, h⟩ := h
    refine LE.p (v := (Value.pointer (some (a16.add (x2.toNat * 2))))) (Wn.no rfl) rfl (R.idx (s := p0) sl24 f12 f14 h17 h18 h19) ?_
    obtain ⟨t20, h21, h⟩ := h
    obtain ⟨t22, h23, h⟩ := h
    refine LE.r (v := (Value.agg #[(Value.int .i64 t20), (SV.v t22)])) (Wn.no rfl) rfl (R.ldA ag27 sz27 rfl rfl (Cs.cons h21 (Cs.cons h23 Cs.nil))) ?_
    obtain ⟨b25, hpb25, w24, hww24, h⟩ := M.new_use h
    refine LE.r (v := (Value.pointer (some b25))) (Wn.no rfl) rfl (R.alloc (cs := #[(Value.int .i64 (0 : Int)), (SV.v SV.nil)]) ze27 rfl hpb25 hww24) ?_
    obtain ⟨w26, hww26, h27, h⟩ := M.stA_use h
    refine LE.s (Wn.no rfl) rfl (R.stA (a := b25) [(Value.int .i64 t20), (SV.v t22)] sz27 rfl rfl rfl (by simp [Value.oneCell']) h27 hww26) ?_
    refine LE.nil ?_
    refine WE.draw mix ?_
    obtain ⟨w28, hww28, h⟩ := M.drew_use h
    rw [← hww28]
    clear hww28
    refine DE.t 0 (v := (SV.v x1)) rfl (by kernel_rfl) (Wn.no rfl) rfl (R.move f11) ?_
    refine DE.t 1 (v := (Value.pointer (some b25))) rfl (by kernel_rfl) (Wn.no rfl) rfl (R.fld (off := 0) fa27_0 rfl) ?_
    refine DE.t 3 (v := (Value.pointer (some (b25.add 1)))) rfl (by kernel_rfl) (Wn.no rfl) rfl (R.fld (off := 1) fa27_1 rfl) ?_
    obtain ⟨t29, h30, h⟩ := h
    refine DE.hold 2 (fun w => w.cell? b25 = some (Value.int .i64 t29)) (v := (Value.int .i64 t29)) rfl (by kernel_rfl) (Wn.no rfl) rfl h30 (fun w hs => R.ld sc3 rfl hs) ?_
    obtain ⟨t31, h32, h⟩ := h
    refine DE.main 4 (by kernel_rfl) ?_
    refine One.r 4 (v := (SV.v t31)) rfl (Wn.no rfl) rfl (R.ld sc25 rfl h32) (.inl rfl) ?_
    refine DE.main 5 (by kernel_rfl) ?_
    refine One.c 5 rfl (Wn.no rfl) rfl (R.call bd49 (Ls.cons rfl Ls.nil) rfl) (Calls.mono h ?_)
    rintro _ w34 ⟨r33, rfl, h⟩
    obtain ⟨k35, h⟩ := h
    refine ⟨_, rfl, ⟨fun _ => k35, trivial⟩, ?_⟩
    refine DE.t 6 (v := (Value.agg #[(Value.int .i64 t29), (SV.v r33)])) rfl (by kernel_rfl) (Wn.no rfl) rfl (R.bld (by exact (Ls.cons (R.Pr rfl) (Ls.cons (R.Pr rfl) Ls.nil))) (fun w => bu27_0_1 t29 r33 w)) ?_
    obtain ⟨b38, hpb38, w36, hww36, h⟩ := M.new_use h
    refine DE.main 7 (by kernel_rfl) ?_
    refine One.r 7 (v := (SV.v (SV.mk (some b38) 1 1))) rfl (Wn.no rfl) rfl (R.bsl (by exact (Ls.cons (R.Pr rfl) Ls.nil)) (fun w => bs24_1 t29 r33 w) hpb38 hww36) (.inr ⟨aftT (by kernel_rfl), trivial⟩) ?_
    obtain ⟨s39, w40, h41, h⟩ := h
    refine DE.main 8 (by kernel_rfl) ?_
    refine One.r 8 (v := (SV.v s39)) rfl (Wn.no rfl) rfl (R.app (s := x1) (r := s39) rfl rfl h41) (.inr ⟨aftT (by kernel_rfl), trivial⟩) ?_
    refine DE.t 9 (v := (SV.v s39)) rfl (by kernel_rfl) (Wn.no rfl) rfl (R.assign rfl) ?_
    refine DE.done (by kernel_rfl) ?_
    refine WE.reg ?_
    refine LE.p (v := (Value.int .i64 (IntKind.i64.wrap (x2 + (1 : Int))))) (Wn.no rfl) rfl (R.add f14 rfl) ?_
    refine LE.p (v := (Value.int .i64 (IntKind.i64.wrap (x2 + (1 : Int))))) (Wn.no rfl) rfl (R.move rfl) ?_
    refine LE.nil ?_
    obtain ⟨m9, hm10, h⟩ := h
    exact ⟨m9, hm10, _, _, h, rfl, f12, f13, rfl⟩
  · intro hb15
    replace h := M.ite_f h hb15
    refine WE.exit ?_
    refine WE.seq ?_
    refine WE.reg ?_
    refine LE.p (v := (SV.v x1)) (Wn.no rfl) rfl (R.move f11) ?_
    refine LE.p (v := (SV.v x1)) (Wn.no rfl) rfl (R.assign rfl) ?_
    refine LE.nil ?_
    refine WE.ret ?_
    exact ⟨_, (Res.tmp rfl Res.nil), _, rfl, h⟩
/-- The formula of slices.Insert[[]uint32,uint32]. -/
def F28 (p0 : SV) (p1 : Int) (p2 : SV) (K : SV → World → Prop) (w0 : World) : Prop :=
M.bnd p1 (p0.len : Int) p0 <|
M.ite ((p2.len : Int) == (0 : Int)) (
K p0 w0) (
M.ite (p1 == (p0.len : Int)) (
M.app Try.prog 25 25 25 p0 (SV.v p2) w0 fun s7 w8 =>
K s7 w8) (
M.ite (decide ((p0.cap : Int) < (IntKind.i64.wrap ((p0.len : Int) + (p2.len : Int))))) (
M.bnd (0 : Int) p1 p0 <|
M.app Try.prog 25 3 25 (SV.sub p0 (Int.toNat (0 : Int)) (Int.toNat p1) 1) (Value.int .i64 (IntKind.i64.wrap ((IntKind.i64.wrap ((p0.len : Int) + (p2.len : Int))) - p1))) w0 fun s15 w16 =>
M.bnd p1 (s15.len : Int) s15 <|
M.cp Try.prog 25 25 3 (SV.sub s15 (Int.toNat p1) (Int.toNat (s15.len : Int)) 1) p2 w16 fun n22 w23 =>
M.drew w23 fun w25 => 
M.bnd (IntKind.i64.wrap (p1 + (p2.len : Int))) (s15.len : Int) s15 <|
M.bnd p1 (p0.len : Int) p0 <|
M.cp Try.prog 25 25 3 (SV.sub s15 (Int.toNat (IntKind.i64.wrap (p1 + (p2.len : Int)))) (Int.toNat (s15.len : Int)) 1) (SV.sub p0 (Int.toNat p1) (Int.toNat (p0.len : Int)) 1) w25 fun n34 w35 =>
K s15 w35) (
M.bnd (0 : Int) (IntKind.i64.wrap ((p0.len : Int) + (p2.len : Int))) p0 <|
M.bnd (IntKind.i64.wrap (p1 + (p2.len : Int))) ((SV.sub p0 (Int.toNat (0 : Int)) (Int.toNat (IntKind.i64.wrap ((p0.len : Int) + (p2.len : Int)))) 1).len : Int) (SV.sub p0 (Int.toNat (0 : Int)) (Int.toNat (IntKind.i64.wrap ((p0.len : Int) + (p2.len : Int)))) 1) <|
∃ (t45 : Bool), (callFunc 50 #[(SV.v p2), (SV.v (SV.sub (SV.sub p0 (Int.toNat (0 : Int)) (Int.toNat (IntKind.i64.wrap ((p0.len : Int) + (p2.len : Int)))) 1) (Int.toNat (IntKind.i64.wrap (p1 + (p2.len : Int)))) (Int.toNat ((SV.sub p0 (Int.toNat (0 : Int)) (Int.toNat (IntKind.i64.wrap ((p0.len : Int) + (p2.len : Int)))) 1).len : Int)) 1))]).run Try.prog w0 = .ok (.value (.bool t45)) w0 ∧
M.ite (!t45) (
M.drew w0 fun w48 => 
M.bnd (IntKind.i64.wrap (p1 + (p2.len : Int))) ((SV.sub p0 (Int.toNat (0 : Int)) (Int.toNat (IntKind.i64.wrap ((p0.len : Int) + (p2.len : Int)))) 1).len : Int) (SV.sub p0 (Int.toNat (0 : Int)) (Int.toNat (IntKind.i64.wrap ((p0.len : Int) + (p2.len : Int)))) 1) <|
M.bnd p1 ((SV.sub p0 (Int.toNat (0 : Int)) (Int.toNat (IntKind.i64.wrap ((p0.len : Int) + (p2.len : Int)))) 1).len : Int) (SV.sub p0 (Int.toNat (0 : Int)) (Int.toNat (IntKind.i64.wrap ((p0.len : Int) + (p2.len : Int)))) 1) <|
M.cp Try.prog 25 25 3 (SV.sub (SV.sub p0 (Int.toNat (0 : Int)) (Int.toNat (IntKind.i64.wrap ((p0.len : Int) + (p2.len : Int)))) 1) (Int.toNat (IntKind.i64.wrap (p1 + (p2.len : Int)))) (Int.toNat ((SV.sub p0 (Int.toNat (0 : Int)) (Int.toNat (IntKind.i64.wrap ((p0.len : Int) + (p2.len : Int)))) 1).len : Int)) 1) (SV.sub (SV.sub p0 (Int.toNat (0 : Int)) (Int.toNat (IntKind.i64.wrap ((p0.len : Int) + (p2.len : Int)))) 1) (Int.toNat p1) (Int.toNat ((SV.sub p0 (Int.toNat (0 : Int)) (Int.toNat (IntKind.i64.wrap ((p0.len : Int) + (p2.len : Int)))) 1).len : Int)) 1) w48 fun n57 w58 =>
M.bnd p1 ((SV.sub p0 (Int.toNat (0 : Int)) (Int.toNat (IntKind.i64.wrap ((p0.len : Int) + (p2.len : Int)))) 1).len : Int) (SV.sub p0 (Int.toNat (0 : Int)) (Int.toNat (IntKind.i64.wrap ((p0.len : Int) + (p2.len : Int)))) 1) <|
M.cp Try.prog 25 25 3 (SV.sub (SV.sub p0 (Int.toNat (0 : Int)) (Int.toNat (IntKind.i64.wrap ((p0.len : Int) + (p2.len : Int)))) 1) (Int.toNat p1) (Int.toNat ((SV.sub p0 (Int.toNat (0 : Int)) (Int.toNat (IntKind.i64.wrap ((p0.len : Int) + (p2.len : Int)))) 1).len : Int)) 1) p2 w58 fun n64 w65 =>
K (SV.sub p0 (Int.toNat (0 : Int)) (Int.toNat (IntKind.i64.wrap ((p0.len : Int) + (p2.len : Int)))) 1) w65) (
M.bnd (p0.len : Int) ((SV.sub p0 (Int.toNat (0 : Int)) (Int.toNat (IntKind.i64.wrap ((p0.len : Int) + (p2.len : Int)))) 1).len : Int) (SV.sub p0 (Int.toNat (0 : Int)) (Int.toNat (IntKind.i64.wrap ((p0.len : Int) + (p2.len : Int)))) 1) <|
M.cp Try.prog 25 25 3 (SV.sub (SV.sub p0 (Int.toNat (0 : Int)) (Int.toNat (IntKind.i64.wrap ((p0.len : Int) + (p2.len : Int)))) 1) (Int.toNat (p0.len : Int)) (Int.toNat ((SV.sub p0 (Int.toNat (0 : Int)) (Int.toNat (IntKind.i64.wrap ((p0.len : Int) + (p2.len : Int)))) 1).len : Int)) 1) p2 w0 fun n71 w72 =>
M.bnd p1 ((SV.sub p0 (Int.toNat (0 : Int)) (Int.toNat (IntKind.i64.wrap ((p0.len : Int) + (p2.len : Int)))) 1).len : Int) (SV.sub p0 (Int.toNat (0 : Int)) (Int.toNat (IntKind.i64.wrap ((p0.len : Int) + (p2.len : Int)))) 1) <|
Calls Try.prog 51 #[(SV.v (SV.sub (SV.sub p0 (Int.toNat (0 : Int)) (Int.toNat (IntKind.i64.wrap ((p0.len : Int) + (p2.len : Int)))) 1) (Int.toNat p1) (Int.toNat ((SV.sub p0 (Int.toNat (0 : Int)) (Int.toNat (IntKind.i64.wrap ((p0.len : Int) + (p2.len : Int)))) 1).len : Int)) 1)), (Value.int .i64 (p2.len : Int))] w72 (R51 fun w78 =>
K (SV.sub p0 (Int.toNat (0 : Int)) (Int.toNat (IntKind.i64.wrap ((p0.len : Int) + (p2.len : Int)))) 1) w78)))))
theorem F28_ok {w0 : World} {p0 : SV} {p1 : Int} {p2 : SV} {K : SV → World → Prop} (h : F28 p0 p1 p2 K w0) : Calls Try.prog 28 #[(SV.v p0), (Value.int .i64 p1), (SV.v p2)] w0 (R28 K) := by
  refine calls_of_WE (args := [(SV.v p0), (Value.int .i64 p1), (SV.v p2)]) (rs := [.tmp 6]) Try.func28 rfl (N := 95) rfl rfl rfl rfl ?_
  refine WE.seq ?_
  refine WE.reg ?_
  refine LE.p (v := (SV.v SV.nil)) (Wn.no rfl) rfl (R.assign rfl) ?_
  refine LE.nil ?_
  refine WE.seq ?_
  refine WE.reg ?_
  refine LE.p (v := (SV.v p0)) (Wn.no rfl) rfl (R.move rfl) ?_
  refine LE.p (v := (Value.int .i64 p1)) (Wn.no rfl) rfl (R.move rfl) ?_
  obtain ⟨h1, h2, h3, h⟩ := h
  refine LE.p (v := (SV.v (SV.sub p0 (Int.toNat p1) (Int.toNat (p0.len : Int)) 1))) (Wn.no rfl) rfl (R.slc (s := p0) (lo := p1) (hi := (p0.len : Int)) _ _ sl25 rfl rfl rfl h1 h2 h3) ?_
  refine LE.nil ?_
  refine WE.seq ?_
  refine WE.reg ?_
  refine LE.p (v := (SV.v p2)) (Wn.no rfl) rfl (R.move rfl) ?_
  refine LE.p (v := (Value.int .i64 (p2.len : Int))) (Wn.no rfl) rfl (R.len sl25 rfl) ?_
  refine LE.p (v := (Value.int .i64 (p2.len : Int))) (Wn.no rfl) rfl (R.assign rfl) ?_
  refine LE.nil ?_
  refine WE.seq ?_
  refine WE.seq ?_
  refine WE.reg ?_
  refine LE.p (v := (Value.int .i64 (p2.len : Int))) (Wn.no rfl) rfl (R.move rfl) ?_
  refine LE.p (v := (Value.bool ((p2.len : Int) == (0 : Int)))) (Wn.no rfl) rfl (R.eql rfl rfl) ?_
  refine LE.nil ?_
  refine WE.condT rfl (b := ((p2.len : Int) == (0 : Int))) rfl ?_ ?_
  · intro hb5
    replace h := M.ite_t h hb5
    refine WE.seq ?_
    refine WE.reg ?_
    refine LE.p (v := (SV.v p0)) (Wn.no rfl) rfl (R.move rfl) ?_
    refine LE.p (v := (SV.v p0)) (Wn.no rfl) rfl (R.assign rfl) ?_
    refine LE.nil ?_
    refine WE.ret ?_
    exact ⟨_, (Res.tmp rfl Res.nil), _, rfl, h⟩
  · intro hb5
    replace h := M.ite_f h hb5
    refine WE.skip ?_
    refine WE.seq ?_
    refine WE.reg ?_
    refine LE.p (v := (SV.v p0)) (Wn.no rfl) rfl (R.move rfl) ?_
    refine LE.p (v := (Value.int .i64 (p0.len : Int))) (Wn.no rfl) rfl (R.len sl25 rfl) ?_
    refine LE.p (v := (Value.int .i64 (p0.len : Int))) (Wn.no rfl) rfl (R.assign rfl) ?_
    refine LE.nil ?_
    refine WE.seq ?_
    refine WE.seq ?_
    refine WE.reg ?_
    refine LE.p (v := (Value.int .i64 p1)) (Wn.no rfl) rfl (R.move rfl) ?_
    refine LE.p (v := (Value.int .i64 (p0.len : Int))) (Wn.no rfl) rfl (R.move rfl) ?_
    refine LE.p (v := (Value.bool (p1 == (p0.len : Int)))) (Wn.no rfl) rfl (R.eql rfl rfl) ?_
    refine LE.nil ?_
    refine WE.condT rfl (b := (p1 == (p0.len : Int))) rfl ?_ ?_
    · intro hb6
      replace h := M.ite_t h hb6
      refine WE.seq ?_
      refine WE.reg ?_
      refine LE.p (v := (SV.v p0)) (Wn.no rfl) rfl (R.move rfl) ?_
      refine LE.p (v := (SV.v p2)) (Wn.no rfl) rfl (R.move rfl) ?_
      obtain ⟨s7, w8, h9, h⟩ := h
      refine LE.r (v := (SV.v s7)) (Wn.no rfl) rfl (R.app (s := p0) (r := s7) rfl rfl h9) ?_
      refine LE.p (v := (SV.v s7)) (Wn.no rfl) rfl (R.assign rfl) ?_
      refine LE.nil ?_
      refine WE.ret ?_
      exact ⟨_, (Res.tmp rfl Res.nil), _, rfl, h⟩
    · intro hb6
      replace h := M.ite_f h hb6
      refine WE.skip ?_
      refine WE.seq ?_
      refine WE.seq ?_
      refine WE.reg ?_
      refine LE.p (v := (Value.int .i64 (p0.len : Int))) (Wn.no rfl) rfl (R.move rfl) ?_
      refine LE.p (v := (Value.int .i64 (p2.len : Int))) (Wn.no rfl) rfl (R.move rfl) ?_
      refine LE.p (v := (Value.int .i64 (IntKind.i64.wrap ((p0.len : Int) + (p2.len : Int))))) (Wn.no rfl) rfl (R.add rfl rfl) ?_
      refine LE.p (v := (SV.v p0)) (Wn.no rfl) rfl (R.move rfl) ?_
      refine LE.p (v := (Value.int .i64 (p0.cap : Int))) (Wn.no rfl) rfl (R.cap sl25 rfl) ?_
      refine LE.p (v := (Value.bool (decide ((p0.cap : Int) < (IntKind.i64.wrap ((p0.len : Int) + (p2.len : Int))))))) (Wn.no rfl) rfl (R.gtr rfl rfl) ?_
      refine LE.nil ?_
      refine WE.condT rfl (b := (decide ((p0.cap : Int) < (IntKind.i64.wrap ((p0.len : Int) + (p2.len : Int)))))) rfl ?_ ?_
      · intro hb10
        replace h := M.ite_t h hb10
        refine WE.seq ?_
        refine WE.reg ?_
        refine LE.p (v := (SV.v p0)) (Wn.no rfl) rfl (R.move rfl) ?_
        refine LE.p (v := (Value.int .i64 p1)) (Wn.no rfl) rfl (R.move rfl) ?_
        obtain ⟨h11, h12, h13, h⟩ := h
        refine LE.p (v := (SV.v (SV.sub p0 (Int.toNat (0 : Int)) (Int.toNat p1) 1))) (Wn.no rfl) rfl (R.slc (s := p0) (lo := (0 : Int)) (hi := p1) _ _ sl25 rfl rfl rfl h11 h12 h13) ?_
        refine LE.p (v := (Value.int .i64 (p0.len : Int))) (Wn.no rfl) rfl (R.move rfl) ?_
        refine LE.p (v := (Value.int .i64 (p2.len : Int))) (Wn.no rfl) rfl (R.move rfl) ?_
        refine LE.p (v := (Value.int .i64 (IntKind.i64.wrap ((p0.len : Int) + (p2.len : Int))))) (Wn.no rfl) rfl (R.add rfl rfl) ?_
        refine LE.p (v := (Value.int .i64 p1)) (Wn.no rfl) rfl (R.move rfl) ?_
        refine LE.p (v := (Value.int .i64 (IntKind.i64.wrap ((IntKind.i64.wrap ((p0.len : Int) + (p2.len : Int))) - p1)))) (Wn.no rfl) rfl (R.sub rfl rfl) ?_
        obtain ⟨s15, w16, h17, h⟩ := h
        refine LE.r (v := (SV.v s15)) (Wn.no rfl) rfl (R.app (s := (SV.sub p0 (Int.toNat (0 : Int)) (Int.toNat p1) 1)) (r := s15) rfl rfl h17) ?_
        refine LE.p (v := (SV.v s15)) (Wn.no rfl) rfl (R.assign rfl) ?_
        refine LE.nil ?_
        refine WE.seq ?_
        refine WE.reg ?_
        refine LE.p (v := (SV.v s15)) (Wn.no rfl) rfl (R.move rfl) ?_
        refine LE.p (v := (Value.int .i64 p1)) (Wn.no rfl) rfl (R.move rfl) ?_
        obtain ⟨h18, h19, h20, h⟩ := h
        refine LE.p (v := (SV.v (SV.sub s15 (Int.toNat p1) (Int.toNat (s15.len : Int)) 1))) (Wn.no rfl) rfl (R.slc (s := s15) (lo := p1) (hi := (s15.len : Int)) _ _ sl25 rfl rfl rfl h18 h19 h20) ?_
        refine LE.p (v := (SV.v p2)) (Wn.no rfl) rfl (R.move rfl) ?_
        obtain ⟨n22, w23, h24, h⟩ := h
        refine LE.r (v := (Value.int .i64 n22)) (Wn.no rfl) rfl (R.cpy (s := (SV.sub s15 (Int.toNat p1) (Int.toNat (s15.len : Int)) 1)) (r := p2) rfl rfl h24) ?_
        refine LE.nil ?_
        refine WE.seq ?_
        refine WE.draw mix ?_
        obtain ⟨w25, hww25, h⟩ := M.drew_use h
        rw [← hww25]
        clear hww25
        refine DE.t 0 (v := (SV.v s15)) rfl (by kernel_rfl) (Wn.no rfl) rfl (R.move rfl) ?_
        refine DE.t 1 (v := (Value.int .i64 p1)) rfl (by kernel_rfl) (Wn.no rfl) rfl (R.move rfl) ?_
        refine DE.t 2 (v := (Value.int .i64 (p2.len : Int))) rfl (by kernel_rfl) (Wn.no rfl) rfl (R.move rfl) ?_
        refine DE.t 3 (v := (Value.int .i64 (IntKind.i64.wrap (p1 + (p2.len : Int))))) rfl (by kernel_rfl) (Wn.no rfl) rfl (R.add rfl rfl) ?_
        obtain ⟨h26, h27, h28, h⟩ := h
        refine DE.t 4 (v := (SV.v (SV.sub s15 (Int.toNat (IntKind.i64.wrap (p1 + (p2.len : Int)))) (Int.toNat (s15.len : Int)) 1))) rfl (by kernel_rfl) (Wn.no rfl) rfl (R.slc (s := s15) (lo := (IntKind.i64.wrap (p1 + (p2.len : Int)))) (hi := (s15.len : Int)) _ _ sl25 rfl rfl rfl h26 h27 h28) ?_
        refine DE.t 5 (v := (SV.v p0)) rfl (by kernel_rfl) (Wn.no rfl) rfl (R.move rfl) ?_
        refine DE.t 6 (v := (Value.int .i64 p1)) rfl (by kernel_rfl) (Wn.no rfl) rfl (R.move rfl) ?_
        obtain ⟨h30, h31, h32, h⟩ := h
        refine DE.t 7 (v := (SV.v (SV.sub p0 (Int.toNat p1) (Int.toNat (p0.len : Int)) 1))) rfl (by kernel_rfl) (Wn.no rfl) rfl (R.slc (s := p0) (lo := p1) (hi := (p0.len : Int)) _ _ sl25 rfl rfl rfl h30 h31 h32) ?_
        obtain ⟨n34, w35, h36, h⟩ := h
        refine DE.main 8 (by kernel_rfl) ?_
        refine One.r 8 (v := (Value.int .i64 n34)) rfl (Wn.no rfl) rfl (R.cpy (s := (SV.sub s15 (Int.toNat (IntKind.i64.wrap (p1 + (p2.len : Int)))) (Int.toNat (s15.len : Int)) 1)) (r := (SV.sub p0 (Int.toNat p1) (Int.toNat (p0.len : Int)) 1)) rfl rfl h36) (.inr trivial) ?_
        refine DE.done (by kernel_rfl) ?_
        refine WE.seq ?_
        refine WE.reg ?_
        refine LE.p (v := (SV.v s15)) (Wn.no rfl) rfl (R.move rfl) ?_
        refine LE.p (v := (SV.v s15)) (Wn.no rfl) rfl (R.assign rfl) ?_
        refine LE.nil ?_
        refine WE.ret ?_
        exact ⟨_, (Res.tmp rfl Res.nil), _, rfl, h⟩
      · intro hb10
        replace h := M.ite_f h hb10
        refine WE.skip ?_
        refine WE.seq ?_
        refine WE.reg ?_
        refine LE.p (v := (SV.v p0)) (Wn.no rfl) rfl (R.move rfl) ?_
        refine LE.p (v := (Value.int .i64 (p0.len : Int))) (Wn.no rfl) rfl (R.move rfl) ?_
        refine LE.p (v := (Value.int .i64 (p2.len : Int))) (Wn.no rfl) rfl (R.move rfl) ?_
        refine LE.p (v := (Value.int .i64 (IntKind.i64.wrap ((p0.len : Int) + (p2.len : Int))))) (Wn.no rfl) rfl (R.add rfl rfl) ?_
        obtain ⟨h37, h38, h39, h⟩ := h
        refine LE.p (v := (SV.v (SV.sub p0 (Int.toNat (0 : Int)) (Int.toNat (IntKind.i64.wrap ((p0.len : Int) + (p2.len : Int)))) 1))) (Wn.no rfl) rfl (R.slc (s := p0) (lo := (0 : Int)) (hi := (IntKind.i64.wrap ((p0.len : Int) + (p2.len : Int)))) _ _ sl25 rfl rfl rfl h37 h38 h39) ?_
        refine LE.p (v := (SV.v (SV.sub p0 (Int.toNat (0 : Int)) (Int.toNat (IntKind.i64.wrap ((p0.len : Int) + (p2.len : Int)))) 1))) (Wn.no rfl) rfl (R.assign rfl) ?_
        refine LE.nil ?_
        refine WE.seq ?_
        refine WE.seq ?_
        refine WE.reg ?_
        refine LE.p (v := (SV.v p2)) (Wn.no rfl) rfl (R.move rfl) ?_
        refine LE.p (v := (SV.v (SV.sub p0 (Int.toNat (0 : Int)) (Int.toNat (IntKind.i64.wrap ((p0.len : Int) + (p2.len : Int)))) 1))) (Wn.no rfl) rfl (R.move rfl) ?_
        refine LE.p (v := (Value.int .i64 p1)) (Wn.no rfl) rfl (R.move rfl) ?_
        refine LE.p (v := (Value.int .i64 (p2.len : Int))) (Wn.no rfl) rfl (R.move rfl) ?_
        refine LE.p (v := (Value.int .i64 (IntKind.i64.wrap (p1 + (p2.len : Int))))) (Wn.no rfl) rfl (R.add rfl rfl) ?_
        obtain ⟨h41, h42, h43, h⟩ := h
        refine LE.p (v := (SV.v (SV.sub (SV.sub p0 (Int.toNat (0 : Int)) (Int.toNat (IntKind.i64.wrap ((p0.len : Int) + (p2.len : Int)))) 1) (Int.toNat (IntKind.i64.wrap (p1 + (p2.len : Int)))) (Int.toNat ((SV.sub p0 (Int.toNat (0 : Int)) (Int.toNat (IntKind.i64.wrap ((p0.len : Int) + (p2.len : Int)))) 1).len : Int)) 1))) (Wn.no rfl) rfl (R.slc (s := (SV.sub p0 (Int.toNat (0 : Int)) (Int.toNat (IntKind.i64.wrap ((p0.len : Int) + (p2.len : Int)))) 1)) (lo := (IntKind.i64.wrap (p1 + (p2.len : Int)))) (hi := ((SV.sub p0 (Int.toNat (0 : Int)) (Int.toNat (IntKind.i64.wrap ((p0.len : Int) + (p2.len : Int)))) 1).len : Int)) _ _ sl25 rfl rfl rfl h41 h42 h43) ?_
        obtain ⟨t45, h46, h⟩ := h
        refine LE.r (v := (Value.bool t45)) (Wn.no rfl) rfl (R.callxw h46 (Ls.cons rfl (Ls.cons rfl Ls.nil)) rfl) ?_
        refine LE.p (v := (Value.bool (!t45))) (Wn.no rfl) rfl (R.not rfl) ?_
        refine LE.nil ?_
        refine WE.condT rfl (b := (!t45)) rfl ?_ ?_
        · intro hb47
          replace h := M.ite_t h hb47
          refine WE.seq ?_
          refine WE.draw mix ?_
          obtain ⟨w48, hww48, h⟩ := M.drew_use h
          rw [← hww48]
          clear hww48
          refine DE.t 0 (v := (SV.v (SV.sub p0 (Int.toNat (0 : Int)) (Int.toNat (IntKind.i64.wrap ((p0.len : Int) + (p2.len : Int)))) 1))) rfl (by kernel_rfl) (Wn.no rfl) rfl (R.move rfl) ?_
          refine DE.t 1 (v := (Value.int .i64 p1)) rfl (by kernel_rfl) (Wn.no rfl) rfl (R.move rfl) ?_
          refine DE.t 2 (v := (Value.int .i64 (p2.len : Int))) rfl (by kernel_rfl) (Wn.no rfl) rfl (R.move rfl) ?_
          refine DE.t 3 (v := (Value.int .i64 (IntKind.i64.wrap (p1 + (p2.len : Int))))) rfl (by kernel_rfl) (Wn.no rfl) rfl (R.add rfl rfl) ?_
          obtain ⟨h49, h50, h51, h⟩ := h
          refine DE.t 4 (v := (SV.v (SV.sub (SV.sub p0 (Int.toNat (0 : Int)) (Int.toNat (IntKind.i64.wrap ((p0.len : Int) + (p2.len : Int)))) 1) (Int.toNat (IntKind.i64.wrap (p1 + (p2.len : Int)))) (Int.toNat ((SV.sub p0 (Int.toNat (0 : Int)) (Int.toNat (IntKind.i64.wrap ((p0.len : Int) + (p2.len : Int)))) 1).len : Int)) 1))) rfl (by kernel_rfl) (Wn.no rfl) rfl (R.slc (s := (SV.sub p0 (Int.toNat (0 : Int)) (Int.toNat (IntKind.i64.wrap ((p0.len : Int) + (p2.len : Int)))) 1)) (lo := (IntKind.i64.wrap (p1 + (p2.len : Int)))) (hi := ((SV.sub p0 (Int.toNat (0 : Int)) (Int.toNat (IntKind.i64.wrap ((p0.len : Int) + (p2.len : Int)))) 1).len : Int)) _ _ sl25 rfl rfl rfl h49 h50 h51) ?_
          refine DE.t 5 (v := (SV.v (SV.sub p0 (Int.toNat (0 : Int)) (Int.toNat (IntKind.i64.wrap ((p0.len : Int) + (p2.len : Int)))) 1))) rfl (by kernel_rfl) (Wn.no rfl) rfl (R.move rfl) ?_
          refine DE.t 6 (v := (Value.int .i64 p1)) rfl (by kernel_rfl) (Wn.no rfl) rfl (R.move rfl) ?_
          obtain ⟨h53, h54, h55, h⟩ := h
          refine DE.t 7 (v := (SV.v (SV.sub (SV.sub p0 (Int.toNat (0 : Int)) (Int.toNat (IntKind.i64.wrap ((p0.len : Int) + (p2.len : Int)))) 1) (Int.toNat p1) (Int.toNat ((SV.sub p0 (Int.toNat (0 : Int)) (Int.toNat (IntKind.i64.wrap ((p0.len : Int) + (p2.len : Int)))) 1).len : Int)) 1))) rfl (by kernel_rfl) (Wn.no rfl) rfl (R.slc (s := (SV.sub p0 (Int.toNat (0 : Int)) (Int.toNat (IntKind.i64.wrap ((p0.len : Int) + (p2.len : Int)))) 1)) (lo := p1) (hi := ((SV.sub p0 (Int.toNat (0 : Int)) (Int.toNat (IntKind.i64.wrap ((p0.len : Int) + (p2.len : Int)))) 1).len : Int)) _ _ sl25 rfl rfl rfl h53 h54 h55) ?_
          obtain ⟨n57, w58, h59, h⟩ := h
          refine DE.main 8 (by kernel_rfl) ?_
          refine One.r 8 (v := (Value.int .i64 n57)) rfl (Wn.no rfl) rfl (R.cpy (s := (SV.sub (SV.sub p0 (Int.toNat (0 : Int)) (Int.toNat (IntKind.i64.wrap ((p0.len : Int) + (p2.len : Int)))) 1) (Int.toNat (IntKind.i64.wrap (p1 + (p2.len : Int)))) (Int.toNat ((SV.sub p0 (Int.toNat (0 : Int)) (Int.toNat (IntKind.i64.wrap ((p0.len : Int) + (p2.len : Int)))) 1).len : Int)) 1)) (r := (SV.sub (SV.sub p0 (Int.toNat (0 : Int)) (Int.toNat (IntKind.i64.wrap ((p0.len : Int) + (p2.len : Int)))) 1) (Int.toNat p1) (Int.toNat ((SV.sub p0 (Int.toNat (0 : Int)) (Int.toNat (IntKind.i64.wrap ((p0.len : Int) + (p2.len : Int)))) 1).len : Int)) 1)) rfl rfl h59) (.inr trivial) ?_
          refine DE.done (by kernel_rfl) ?_
          refine WE.seq ?_
          refine WE.reg ?_
          refine LE.p (v := (SV.v (SV.sub p0 (Int.toNat (0 : Int)) (Int.toNat (IntKind.i64.wrap ((p0.len : Int) + (p2.len : Int)))) 1))) (Wn.no rfl) rfl (R.move rfl) ?_
          refine LE.p (v := (Value.int .i64 p1)) (Wn.no rfl) rfl (R.move rfl) ?_
          obtain ⟨h60, h61, h62, h⟩ := h
          refine LE.p (v := (SV.v (SV.sub (SV.sub p0 (Int.toNat (0 : Int)) (Int.toNat (IntKind.i64.wrap ((p0.len : Int) + (p2.len : Int)))) 1) (Int.toNat p1) (Int.toNat ((SV.sub p0 (Int.toNat (0 : Int)) (Int.toNat (IntKind.i64.wrap ((p0.len : Int) + (p2.len : Int)))) 1).len : Int)) 1))) (Wn.no rfl) rfl (R.slc (s := (SV.sub p0 (Int.toNat (0 : Int)) (Int.toNat (IntKind.i64.wrap ((p0.len : Int) + (p2.len : Int)))) 1)) (lo := p1) (hi := ((SV.sub p0 (Int.toNat (0 : Int)) (Int.toNat (IntKind.i64.wrap ((p0.len : Int) + (p2.len : Int)))) 1).len : Int)) _ _ sl25 rfl rfl rfl h60 h61 h62) ?_
          refine LE.p (v := (SV.v p2)) (Wn.no rfl) rfl (R.move rfl) ?_
          obtain ⟨n64, w65, h66, h⟩ := h
          refine LE.r (v := (Value.int .i64 n64)) (Wn.no rfl) rfl (R.cpy (s := (SV.sub (SV.sub p0 (Int.toNat (0 : Int)) (Int.toNat (IntKind.i64.wrap ((p0.len : Int) + (p2.len : Int)))) 1) (Int.toNat p1) (Int.toNat ((SV.sub p0 (Int.toNat (0 : Int)) (Int.toNat (IntKind.i64.wrap ((p0.len : Int) + (p2.len : Int)))) 1).len : Int)) 1)) (r := p2) rfl rfl h66) ?_
          refine LE.nil ?_
          refine WE.seq ?_
          refine WE.reg ?_
          refine LE.p (v := (SV.v (SV.sub p0 (Int.toNat (0 : Int)) (Int.toNat (IntKind.i64.wrap ((p0.len : Int) + (p2.len : Int)))) 1))) (Wn.no rfl) rfl (R.move rfl) ?_
          refine LE.p (v := (SV.v (SV.sub p0 (Int.toNat (0 : Int)) (Int.toNat (IntKind.i64.wrap ((p0.len : Int) + (p2.len : Int)))) 1))) (Wn.no rfl) rfl (R.assign rfl) ?_
          refine LE.nil ?_
          refine WE.ret ?_
          exact ⟨_, (Res.tmp rfl Res.nil), _, rfl, h⟩
        · intro hb47
          replace h := M.ite_f h hb47
          refine WE.skip ?_
          refine WE.seq ?_
          refine WE.reg ?_
          refine LE.p (v := (SV.v (SV.sub p0 (Int.toNat (0 : Int)) (Int.toNat (IntKind.i64.wrap ((p0.len : Int) + (p2.len : Int)))) 1))) (Wn.no rfl) rfl (R.move rfl) ?_
          refine LE.p (v := (Value.int .i64 (p0.len : Int))) (Wn.no rfl) rfl (R.move rfl) ?_
          obtain ⟨h67, h68, h69, h⟩ := h
          refine LE.p (v := (SV.v (SV.sub (SV.sub p0 (Int.toNat (0 : Int)) (Int.toNat (IntKind.i64.wrap ((p0.len : Int) + (p2.len : Int)))) 1) (Int.toNat (p0.len : Int)) (Int.toNat ((SV.sub p0 (Int.toNat (0 : Int)) (Int.toNat (IntKind.i64.wrap ((p0.len : Int) + (p2.len : Int)))) 1).len : Int)) 1))) (Wn.no rfl) rfl (R.slc (s := (SV.sub p0 (Int.toNat (0 : Int)) (Int.toNat (IntKind.i64.wrap ((p0.len : Int) + (p2.len : Int)))) 1)) (lo := (p0.len : Int)) (hi := ((SV.sub p0 (Int.toNat (0 : Int)) (Int.toNat (IntKind.i64.wrap ((p0.len : Int) + (p2.len : Int)))) 1).len : Int)) _ _ sl25 rfl rfl rfl h67 h68 h69) ?_
          refine LE.p (v := (SV.v p2)) (Wn.no rfl) rfl (R.move rfl) ?_
          obtain ⟨n71, w72, h73, h⟩ := h
          refine LE.r (v := (Value.int .i64 n71)) (Wn.no rfl) rfl (R.cpy (s := (SV.sub (SV.sub p0 (Int.toNat (0 : Int)) (Int.toNat (IntKind.i64.wrap ((p0.len : Int) + (p2.len : Int)))) 1) (Int.toNat (p0.len : Int)) (Int.toNat ((SV.sub p0 (Int.toNat (0 : Int)) (Int.toNat (IntKind.i64.wrap ((p0.len : Int) + (p2.len : Int)))) 1).len : Int)) 1)) (r := p2) rfl rfl h73) ?_
          refine LE.nil ?_
          refine WE.seq ?_
          refine WE.reg ?_
          refine LE.p (v := (SV.v (SV.sub p0 (Int.toNat (0 : Int)) (Int.toNat (IntKind.i64.wrap ((p0.len : Int) + (p2.len : Int)))) 1))) (Wn.no rfl) rfl (R.move rfl) ?_
          refine LE.p (v := (Value.int .i64 p1)) (Wn.no rfl) rfl (R.move rfl) ?_
          obtain ⟨h74, h75, h76, h⟩ := h
          refine LE.p (v := (SV.v (SV.sub (SV.sub p0 (Int.toNat (0 : Int)) (Int.toNat (IntKind.i64.wrap ((p0.len : Int) + (p2.len : Int)))) 1) (Int.toNat p1) (Int.toNat ((SV.sub p0 (Int.toNat (0 : Int)) (Int.toNat (IntKind.i64.wrap ((p0.len : Int) + (p2.len : Int)))) 1).len : Int)) 1))) (Wn.no rfl) rfl (R.slc (s := (SV.sub p0 (Int.toNat (0 : Int)) (Int.toNat (IntKind.i64.wrap ((p0.len : Int) + (p2.len : Int)))) 1)) (lo := p1) (hi := ((SV.sub p0 (Int.toNat (0 : Int)) (Int.toNat (IntKind.i64.wrap ((p0.len : Int) + (p2.len : Int)))) 1).len : Int)) _ _ sl25 rfl rfl rfl h74 h75 h76) ?_
          refine LE.p (v := (Value.int .i64 (p2.len : Int))) (Wn.no rfl) rfl (R.move rfl) ?_
          refine LE.c (Wn.no rfl) rfl (R.call bd51 (Ls.cons rfl (Ls.cons rfl Ls.nil)) rfl) (Calls.mono h ?_)
          rintro _ w78 ⟨rfl, h⟩
          refine ⟨_, rfl, ?_⟩
          refine LE.nil ?_
          refine WE.seq ?_
          refine WE.reg ?_
          refine LE.p (v := (SV.v (SV.sub p0 (Int.toNat (0 : Int)) (Int.toNat (IntKind.i64.wrap ((p0.len : Int) + (p2.len : Int)))) 1))) (Wn.no rfl) rfl (R.move rfl) ?_
          refine LE.p (v := (SV.v (SV.sub p0 (Int.toNat (0 : Int)) (Int.toNat (IntKind.i64.wrap ((p0.len : Int) + (p2.len : Int)))) 1))) (Wn.no rfl) rfl (R.assign rfl) ?_
          refine LE.nil ?_
          refine WE.ret ?_
          exact ⟨_, (Res.tmp rfl Res.nil), _, rfl, h⟩
end Go.Proofs.Ytflffabmfoldeaa
