/-
  Printed by gen.py: the formula of each function, and that it holds of the function.
-/
import Derived.Test.YtnkpjlojijppiaaTy
namespace Go.Proofs.Ytnkpjlojijppiaa
set_option linter.unusedVariables false
set_option linter.unusedSimpArgs false
open Go.Sp
set_option linter.unusedVariables false
/-- The formula of signpost.signpostlaw15.IgpMatch. -/
def F3 (p0 : SV) (p1 : Int) (K : Bool → World → Prop) (w0 : World) : Prop :=
Calls Try.prog 7 #[] w0 (R7 fun r1 w2 =>
M.ite (Option.isNone r1) (
K false w2) (
M.loop1 (fun (J5 : Int → World → Prop) (x4 : Int) (w6 : World) => 
M.join (fun (x18 : Bool) (w21 : World) => 
M.ite x18 (
M.idx p0 x4 9 fun a28 =>
∃ (t32 : Int) (t33 : Int) (t34 : Bool) (t35 : Int) (t36 : Int) (t37 : Nat), Cs w21 ((a28.add (x4.toNat * 9)).add 1) 0 [(Value.int .u32 t32), (Value.int .i64 t33), (Value.bool t34), (Value.int .i64 t35), (Value.int .u32 t36), (Value.float .f64 t37)] ∧
Calls Try.prog 9 #[(Value.agg #[(Value.int .u32 t32), (Value.int .i64 t33), (Value.bool t34), (Value.int .i64 t35), (Value.int .u32 t36), (Value.float .f64 t37)])] w21 (R9 fun r39 r40 r41 r42 r43 r44 w45 =>
Calls Try.prog 8 #[(Value.pointer r1), (Value.agg #[(Value.int .u32 r39), (Value.int .i64 r40), (Value.bool r41), (Value.int .i64 r42), (Value.int .u32 r43), (Value.float .f64 r44)])] w45 (R8 fun r46 r47 w48 =>
J5 (IntKind.i64.wrap (x4 + (1 : Int))) w48))) (
Calls Try.prog 10 #[(Value.pointer r1), (Value.int .u32 (bOr .u32 (3221225984 : Int) (Int.tmod p1 (16 : Int))))] w21 (R10 fun r49 r50 r51 r52 r53 r54 r55 w56 =>
M.new (.cells #[(Value.int .u32 (0 : Int)), (Value.int .i64 (0 : Int)), (Value.bool false), (Value.int .i64 (0 : Int)), (Value.int .u32 (0 : Int)), (Value.float .f64 (0 : Nat))] 33) w56 fun b58 w57 =>
M.stA b58 [(Value.int .u32 r49), (Value.int .i64 r50), (Value.bool r51), (Value.int .i64 r52), (Value.int .u32 r53), (Value.float .f64 r54)] w57 fun w59 =>
Calls Try.prog 11 #[(Value.pointer r1)] w59 (R11 fun r61 w62 =>
M.loop2 (fun (J65 : Int → Int → World → Prop) (x63 : Int) (x64 : Int) (w66 : World) => 
M.ite (decide (x64 < (r61.len : Int))) (
M.join (fun (x81 : Int) (w161 : World) => 
J65 x81 (IntKind.i64.wrap (x64 + (1 : Int))) w161) fun J80 => 
M.join (fun (x83 : Bool) (w105 : World) => 
M.ite x83 (
K false w105) (
M.join (fun (x115 : Bool) (w151 : World) => 
M.ite x115 (
J80 x64 w151) (
J80 x63 w151)) fun J114 => 
M.drew w105 fun w116 => 
M.idx r61 x64 6 fun a117 =>
M.ld (Value.int .u32) (a117.add (x64.toNat * 6)) w116 fun t121 =>
M.ld (Value.int .i64) ((a117.add (x64.toNat * 6)).add 1) w116 fun t123 =>
Calls Try.prog 13 #[(Value.agg #[(Value.int .u32 t121), (Value.int .i64 t123)]), (Value.int .u32 (bOr .u32 (3221225984 : Int) (Int.tmod p1 (16 : Int))))] w116 (R13 fun r125 w126 =>
M.ite r125 (
M.idx r61 x64 6 fun a128 =>
M.ld (Value.float .f64) ((a128.add (x64.toNat * 6)).add 5) w126 fun t132 =>
Calls Try.prog 14 #[(Value.float .f64 t132), (Value.int .i64 (1 : Int))] w126 (R14 fun r134 w135 =>
M.ite (!r134) (
M.ite (decide (x63 < (0 : Int))) (
J114 true w135) (
M.idx r61 x64 6 fun a138 =>
M.idx r61 x63 6 fun a142 =>
M.ld (Value.int .i64) ((a138.add (x64.toNat * 6)).add 1) w135 fun t146 =>
M.ld (Value.int .i64) ((a142.add (x63.toNat * 6)).add 1) w135 fun t148 =>
J114 (decide (t148 < t146)) w135)) (
J114 false w135))) (
J114 false w126)))) fun J82 => 
M.drew w66 fun w84 => 
M.ite (decide ((0 : Int) < x64)) (
M.idx r61 (IntKind.i64.wrap (x64 - (1 : Int))) 6 fun a86 =>
M.idx r61 x64 6 fun a90 =>
M.ld (Value.int .u32) (a86.add ((IntKind.i64.wrap (x64 - (1 : Int))).toNat * 6)) w84 fun t94 =>
M.ld (Value.int .i64) ((a86.add ((IntKind.i64.wrap (x64 - (1 : Int))).toNat * 6)).add 1) w84 fun t96 =>
M.ld (Value.int .u32) (a90.add (x64.toNat * 6)) w84 fun t98 =>
M.ld (Value.int .i64) ((a90.add (x64.toNat * 6)).add 1) w84 fun t100 =>
Calls Try.prog 12 #[(Value.agg #[(Value.int .u32 t94), (Value.int .i64 t96)]), (Value.agg #[(Value.int .u32 t98), (Value.int .i64 t100)])] w84 (R12 fun r102 w103 =>
J82 (!r102) w103)) (
J82 false w84)) (
M.join (fun (x169 : Bool) (w199 : World) => 
K x169 w199) fun J168 => 
M.drew w66 fun w170 => 
M.ite (r55 == (decide ((0 : Int) ≤ x63))) (
M.ite (!r55) (
Calls Try.prog 16 #[] w170 (R16 fun r173 w174 =>
J168 r173 w174)) (
M.idx r61 x63 6 fun a175 =>
∃ (t179 : Int) (t180 : Int) (t181 : Bool) (t182 : Int) (t183 : Int) (t184 : Nat), Cs w170 b58 0 [(Value.int .u32 t179), (Value.int .i64 t180), (Value.bool t181), (Value.int .i64 t182), (Value.int .u32 t183), (Value.float .f64 t184)] ∧
∃ (t186 : Int) (t187 : Int) (t188 : Bool) (t189 : Int) (t190 : Int) (t191 : Nat), Cs w170 (a175.add (x63.toNat * 6)) 0 [(Value.int .u32 t186), (Value.int .i64 t187), (Value.bool t188), (Value.int .i64 t189), (Value.int .u32 t190), (Value.float .f64 t191)] ∧
Calls Try.prog 15 #[(Value.agg #[(Value.int .u32 t179), (Value.int .i64 t180), (Value.bool t181), (Value.int .i64 t182), (Value.int .u32 t183), (Value.float .f64 t184)]), (Value.agg #[(Value.int .u32 t186), (Value.int .i64 t187), (Value.bool t188), (Value.int .i64 t189), (Value.int .u32 t190), (Value.float .f64 t191)])] w170 (R15 fun r193 w194 =>
M.ite r193 (
Calls Try.prog 16 #[] w194 (R16 fun r196 w197 =>
J168 r196 w197)) (
J168 false w194)))) (
J168 false w170))) (-1 : Int) (0 : Int) w62)))) fun J17 => 
M.ite (decide (x4 < (p0.len : Int))) (
J17 (decide (x4 < (40 : Int))) w6) (
J17 false w6)) (0 : Int) w2))
theorem F3_ok {w0 : World} {p0 : SV} {p1 : Int} {K : Bool → World → Prop} (h : F3 p0 p1 K w0) : Calls Try.prog 3 #[(SV.v p0), (Value.int .u32 p1)] w0 (R3 K) := by
  refine calls_of_WE (args := [(SV.v p0), (Value.int .u32 p1)]) (rs := [.tmp 4]) Try.func3 rfl (N := 122) rfl rfl rfl rfl ?_
  refine WE.seq ?_
  refine WE.reg ?_
  refine LE.p (v := (Value.bool false)) (Wn.no rfl) rfl (R.assign rfl) ?_
  refine LE.nil ?_
  refine WE.seq ?_
  refine WE.reg ?_
  refine LE.c (Wn.no rfl) rfl (R.call bd7 Ls.nil rfl) (Calls.mono h ?_)
  rintro _ w2 ⟨r1, rfl, h⟩
  refine ⟨_, rfl, ?_⟩
  refine LE.p (v := (Value.pointer r1)) (Wn.no rfl) rfl (R.assign rfl) ?_
  refine LE.nil ?_
  refine WE.seq ?_
  refine WE.seq ?_
  refine WE.reg ?_
  refine LE.p (v := (Value.pointer r1)) (Wn.no rfl) rfl (R.move rfl) ?_
  refine LE.p (v := (Value.bool (Option.isNone r1))) (Wn.no rfl) rfl (R.peqNil pt24 rfl rfl) ?_
  refine LE.nil ?_
  refine WE.condT rfl (b := (Option.isNone r1)) rfl ?_ ?_
  · intro hb3
    replace h := M.ite_t h hb3
    refine WE.seq ?_
    refine WE.reg ?_
    refine LE.p (v := (Value.bool false)) (Wn.no rfl) rfl (R.assign rfl) ?_
    refine LE.nil ?_
    refine WE.ret ?_
    exact ⟨_, (Res.tmp rfl Res.nil), _, rfl, h⟩
  · intro hb3
    replace h := M.ite_f h hb3
    refine WE.skip ?_
    refine WE.seq ?_
    refine WE.seq ?_
    refine WE.reg ?_
    refine LE.p (v := (Value.int .i64 (0 : Int))) (Wn.no rfl) rfl (R.assign rfl) ?_
    refine LE.nil ?_
    refine WE.block ?_
    obtain ⟨I9, ⟨n8, h⟩, hr10⟩ := h
    refine WE.loop (fun n e w => ∃ (x4 : Int), I9 n x4 w ∧ e 0 = (SV.v p0) ∧ e 1 = (Value.int .u32 p1) ∧ e 5 = (Value.pointer r1) ∧ e 6 = (Value.int .i64 x4)) n8 ⟨_, h, rfl, rfl, rfl, rfl⟩ ?_
    clear h
    rintro n8 e7 w6 ⟨x4, h, f13, f14, f15, f16⟩
    replace h := hr10 n8 x4 w6 h
    refine WE.seq ?_
    refine WE.seq ?_
    obtain ⟨J17, hJ17, h⟩ := M.join_use h
    refine WE.regJ (fun e w => ∃ (x18 : Bool), J17 x18 w ∧ e 0 = (SV.v p0) ∧ e 1 = (Value.int .u32 p1) ∧ e 5 = (Value.pointer r1) ∧ e 6 = (Value.int .i64 x4) ∧ e 22 = (Value.bool x18)) ?_ ?_
    · clear hJ17
      refine LE.p (v := (Value.int .i64 x4)) (Wn.no rfl) rfl (R.move f16) ?_
      refine LE.p (v := (SV.v p0)) (Wn.no rfl) rfl (R.move f13) ?_
      refine LE.p (v := (Value.int .i64 (p0.len : Int))) (Wn.no rfl) rfl (R.len sl22 rfl) ?_
      refine LE.p (v := (Value.bool (decide (x4 < (p0.len : Int))))) (Wn.no rfl) rfl (R.lss rfl rfl) ?_
      refine LE.p (v := (Value.bool (decide (x4 < (p0.len : Int))))) (Wn.no rfl) rfl (R.move rfl) ?_
      rcases M.ite_use h with ⟨hb19, h⟩ | ⟨hb19, h⟩
      · refine LE.p (v := (Value.int .i64 x4)) (Wn.yes 4 19 true rfl rfl rfl (congrArg Value.bool hb19)) rfl (R.move f16) ?_
        refine LE.p (v := (Value.bool (decide (x4 < (40 : Int))))) (Wn.yes 4 19 true rfl rfl rfl (congrArg Value.bool hb19)) rfl (R.lss rfl rfl) ?_
        refine LE.p (v := (Value.bool (decide (x4 < (40 : Int))))) (Wn.no rfl) rfl (R.pickT (congrArg Value.bool hb19) rfl) ?_
        refine LE.nil ?_
        exact ⟨_, h, f13, f14, f15, f16, rfl⟩
      · refine LE.u (Un.no 4 19 true rfl rfl rfl (congrArg Value.bool hb19)) ?_
        refine LE.u (Un.no 4 19 true rfl rfl rfl (congrArg Value.bool hb19)) ?_
        refine LE.p (v := (Value.bool false)) (Wn.no rfl) rfl (R.pickF (congrArg Value.bool hb19) rfl) ?_
        refine LE.nil ?_
        exact ⟨_, h, f13, f14, f15, f16, rfl⟩
    · rintro e20 w21 ⟨x18, h, f22, f23, f24, f25, f26⟩
      subst hJ17
      refine WE.condT rfl (b := x18) f26 ?_ ?_
      · intro hb27
        replace h := M.ite_t h hb27
        refine WE.skip ?_
        refine WE.seq ?_
        refine WE.block ?_
        refine WE.reg ?_
        refine LE.p (v := (Value.pointer r1)) (Wn.no rfl) rfl (R.move f24) ?_
        refine LE.p (v := (SV.v p0)) (Wn.no rfl) rfl (R.move f22) ?_
        refine LE.p (v := (Value.int .i64 x4)) (Wn.no rfl) rfl (R.move f25) ?_
        obtain ⟨a28, h29, h30, h31, h⟩ := h
        refine LE.p (v := (Value.pointer (some (a28.add (x4.toNat * 9))))) (Wn.no rfl) rfl (R.idx (s := p0) sl22 rfl rfl h29 h30 h31) ?_
        refine LE.p (v := (Value.pointer (some ((a28.add (x4.toNat * 9)).add 1)))) (Wn.no rfl) rfl (R.fld (off := 1) fa36_1 rfl) ?_
        obtain ⟨t32, t33, t34, t35, t36, t37, h38, h⟩ := h
        refine LE.r (v := (Value.agg #[(Value.int .u32 t32), (Value.int .i64 t33), (Value.bool t34), (Value.int .i64 t35), (Value.int .u32 t36), (Value.float .f64 t37)])) (Wn.no rfl) rfl (R.ldA ag33 sz33 rfl rfl h38) ?_
        refine LE.c (Wn.no rfl) rfl (R.call bd9 (Ls.cons rfl Ls.nil) rfl) (Calls.mono h ?_)
        rintro _ w45 ⟨r39, r40, r41, r42, r43, r44, rfl, h⟩
        refine ⟨_, rfl, ?_⟩
        refine LE.c (Wn.no rfl) rfl (R.call bd8 (Ls.cons rfl (Ls.cons rfl Ls.nil)) rfl) (Calls.mono h ?_)
        rintro _ w48 ⟨r46, r47, rfl, h⟩
        refine ⟨_, rfl, ?_⟩
        refine LE.nil ?_
        refine WE.reg ?_
        refine LE.p (v := (Value.int .i64 x4)) (Wn.no rfl) rfl (R.move f25) ?_
        refine LE.p (v := (Value.int .i64 (IntKind.i64.wrap (x4 + (1 : Int))))) (Wn.no rfl) rfl (R.add rfl rfl) ?_
        refine LE.p (v := (Value.int .i64 (IntKind.i64.wrap (x4 + (1 : Int))))) (Wn.no rfl) rfl (R.assign rfl) ?_
        refine LE.nil ?_
        obtain ⟨m11, hm12, h⟩ := h
        exact ⟨m11, hm12, _, h, f22, f23, f24, rfl⟩
      · intro hb27
        replace h := M.ite_f h hb27
        refine WE.exit ?_
        refine WE.seq ?_
        refine WE.reg ?_
        refine LE.p (v := (Value.int .u32 p1)) (Wn.no rfl) rfl (R.move f23) ?_
        refine LE.p (v := (Value.int .u32 (Int.tmod p1 (16 : Int)))) (Wn.no rfl) rfl (R.rem rfl rfl (by decide)) ?_
        refine LE.p (v := (Value.int .u32 (bOr .u32 (3221225984 : Int) (Int.tmod p1 (16 : Int))))) (Wn.no rfl) rfl (R.or rfl rfl) ?_
        refine LE.p (v := (Value.int .u32 (bOr .u32 (3221225984 : Int) (Int.tmod p1 (16 : Int))))) (Wn.no rfl) rfl (R.assign rfl) ?_
        refine LE.nil ?_
        refine WE.seq ?_
        refine WE.reg ?_
        refine LE.p (v := (Value.pointer r1)) (Wn.no rfl) rfl (R.move f24) ?_
        refine LE.p (v := (Value.int .u32 (bOr .u32 (3221225984 : Int) (Int.tmod p1 (16 : Int))))) (Wn.no rfl) rfl (R.move rfl) ?_
        refine LE.c (Wn.no rfl) rfl (R.call bd10 (Ls.cons rfl (Ls.cons rfl Ls.nil)) rfl) (Calls.mono h ?_)
        rintro _ w56 ⟨r49, r50, r51, r52, r53, r54, r55, rfl, h⟩
        refine ⟨_, rfl, ?_⟩
        refine LE.p (v := (Value.tuple #[(Value.agg #[(Value.int .u32 r49), (Value.int .i64 r50), (Value.bool r51), (Value.int .i64 r52), (Value.int .u32 r53), (Value.float .f64 r54)]), (Value.bool r55)])) (Wn.no rfl) rfl (R.move rfl) ?_
        refine LE.p (v := (Value.agg #[(Value.int .u32 r49), (Value.int .i64 r50), (Value.bool r51), (Value.int .i64 r52), (Value.int .u32 r53), (Value.float .f64 r54)])) (Wn.no rfl) rfl (R.ext rfl rfl) ?_
        refine LE.p (v := (Value.bool r55)) (Wn.no rfl) rfl (R.ext rfl rfl) ?_
        obtain ⟨b58, hpb58, w57, hww57, h⟩ := M.new_use h
        refine LE.r (v := (Value.pointer (some b58))) (Wn.no rfl) rfl (R.alloc (cs := #[(Value.int .u32 (0 : Int)), (Value.int .i64 (0 : Int)), (Value.bool false), (Value.int .i64 (0 : Int)), (Value.int .u32 (0 : Int)), (Value.float .f64 (0 : Nat))]) ze33 rfl hpb58 hww57) ?_
        obtain ⟨w59, hww59, h60, h⟩ := M.stA_use h
        refine LE.s (Wn.no rfl) rfl (R.stA (a := b58) [(Value.int .u32 r49), (Value.int .i64 r50), (Value.bool r51), (Value.int .i64 r52), (Value.int .u32 r53), (Value.float .f64 r54)] sz33 rfl rfl rfl (by simp [Value.oneCell']) h60 hww59) ?_
        refine LE.p (v := (Value.bool r55)) (Wn.no rfl) rfl (R.assign rfl) ?_
        refine LE.nil ?_
        refine WE.seq ?_
        refine WE.reg ?_
        refine LE.p (v := (Value.pointer r1)) (Wn.no rfl) rfl (R.move f24) ?_
        refine LE.c (Wn.no rfl) rfl (R.call bd11 (Ls.cons rfl Ls.nil) rfl) (Calls.mono h ?_)
        rintro _ w62 ⟨r61, rfl, h⟩
        refine ⟨_, rfl, ?_⟩
        refine LE.p (v := (SV.v r61)) (Wn.no rfl) rfl (R.assign rfl) ?_
        refine LE.nil ?_
        refine WE.seq ?_
        refine WE.reg ?_
        refine LE.p (v := (Value.int .i64 (-1 : Int))) (Wn.no rfl) rfl (R.assign rfl) ?_
        refine LE.nil ?_
        refine WE.seq ?_
        refine WE.seq ?_
        refine WE.reg ?_
        refine LE.p (v := (Value.int .i64 (0 : Int))) (Wn.no rfl) rfl (R.assign rfl) ?_
        refine LE.nil ?_
        refine WE.block ?_
        obtain ⟨I69, ⟨n68, h⟩, hr70⟩ := h
        refine WE.loop (fun n e w => ∃ (x63 : Int) (x64 : Int), I69 n x63 x64 w ∧ e 1 = (Value.int .u32 (bOr .u32 (3221225984 : Int) (Int.tmod p1 (16 : Int)))) ∧ e 7 = (Value.pointer (some b58)) ∧ e 8 = (Value.bool r55) ∧ e 9 = (SV.v r61) ∧ e 10 = (Value.int .i64 x63) ∧ e 11 = (Value.int .i64 x64)) n68 ⟨_, _, h, rfl, rfl, rfl, rfl, rfl, rfl⟩ ?_
        clear h
        rintro n68 e67 w66 ⟨x63, x64, h, f73, f74, f75, f76, f77, f78⟩
        replace h := hr70 n68 x63 x64 w66 h
        refine WE.seq ?_
        refine WE.seq ?_
        refine WE.reg ?_
        refine LE.p (v := (Value.int .i64 x64)) (Wn.no rfl) rfl (R.move f78) ?_
        refine LE.p (v := (SV.v r61)) (Wn.no rfl) rfl (R.move f76) ?_
        refine LE.p (v := (Value.int .i64 (r61.len : Int))) (Wn.no rfl) rfl (R.len sl39 rfl) ?_
        refine LE.p (v := (Value.bool (decide (x64 < (r61.len : Int))))) (Wn.no rfl) rfl (R.lss rfl rfl) ?_
        refine LE.nil ?_
        refine WE.condT rfl (b := (decide (x64 < (r61.len : Int)))) rfl ?_ ?_
        · intro hb79
          replace h := M.ite_t h hb79
          refine WE.skip ?_
          refine WE.seq ?_
          obtain ⟨J80, hJ80, h⟩ := M.join_use h
          refine WE.blkJ (fun e w => ∃ (x81 : Int), J80 x81 w ∧ e 1 = (Value.int .u32 (bOr .u32 (3221225984 : Int) (Int.tmod p1 (16 : Int)))) ∧ e 7 = (Value.pointer (some b58)) ∧ e 8 = (Value.bool r55) ∧ e 9 = (SV.v r61) ∧ e 10 = (Value.int .i64 x81) ∧ e 11 = (Value.int .i64 x64)) ?_ ?_
          · clear hJ80
            refine WE.seq ?_
            refine WE.seq ?_
            obtain ⟨J82, hJ82, h⟩ := M.join_use h
            refine WE.drawJ (fun e w => ∃ (x83 : Bool), J82 x83 w ∧ e 1 = (Value.int .u32 (bOr .u32 (3221225984 : Int) (Int.tmod p1 (16 : Int)))) ∧ e 7 = (Value.pointer (some b58)) ∧ e 8 = (Value.bool r55) ∧ e 9 = (SV.v r61) ∧ e 10 = (Value.int .i64 x63) ∧ e 11 = (Value.int .i64 x64) ∧ e 66 = (Value.bool x83)) mix ?_ ?_
            · clear hJ82
              obtain ⟨w84, hww84, h⟩ := M.drew_use h
              rw [← hww84]
              clear hww84
              refine DE.t 0 (v := (Value.int .i64 x64)) rfl (by kernel_rfl) (Wn.no rfl) rfl (R.move f78) ?_
              refine DE.t 1 (v := (Value.bool (decide ((0 : Int) < x64)))) rfl (by kernel_rfl) (Wn.no rfl) rfl (R.gtr rfl rfl) ?_
              refine DE.t 2 (v := (Value.bool (decide ((0 : Int) < x64)))) rfl (by kernel_rfl) (Wn.no rfl) rfl (R.move rfl) ?_
              rcases M.ite_use h with ⟨hb85, h⟩ | ⟨hb85, h⟩
              · refine DE.t 3 (v := (SV.v r61)) rfl (by kernel_rfl) (Wn.yes 2 52 true rfl rfl rfl (congrArg Value.bool hb85)) rfl (R.move f76) ?_
                refine DE.t 4 (v := (Value.int .i64 x64)) rfl (by kernel_rfl) (Wn.yes 2 52 true rfl rfl rfl (congrArg Value.bool hb85)) rfl (R.move f78) ?_
                refine DE.t 5 (v := (Value.int .i64 (IntKind.i64.wrap (x64 - (1 : Int))))) rfl (by kernel_rfl) (Wn.yes 2 52 true rfl rfl rfl (congrArg Value.bool hb85)) rfl (R.sub rfl rfl) ?_
                obtain ⟨a86, h87, h88, h89, h⟩ := h
                refine DE.t 6 (v := (Value.pointer (some (a86.add ((IntKind.i64.wrap (x64 - (1 : Int))).toNat * 6))))) rfl (by kernel_rfl) (Wn.yes 2 52 true rfl rfl rfl (congrArg Value.bool hb85)) rfl (R.idx (s := r61) sl39 rfl rfl h87 h88 h89) ?_
                refine DE.t 7 (v := (Value.pointer (some (a86.add ((IntKind.i64.wrap (x64 - (1 : Int))).toNat * 6))))) rfl (by kernel_rfl) (Wn.yes 2 52 true rfl rfl rfl (congrArg Value.bool hb85)) rfl (R.fld (off := 0) fa33_0 rfl) ?_
                refine DE.t 9 (v := (SV.v r61)) rfl (by kernel_rfl) (Wn.yes 2 52 true rfl rfl rfl (congrArg Value.bool hb85)) rfl (R.move f76) ?_
                refine DE.t 10 (v := (Value.int .i64 x64)) rfl (by kernel_rfl) (Wn.yes 2 52 true rfl rfl rfl (congrArg Value.bool hb85)) rfl (R.move f78) ?_
                obtain ⟨a90, h91, h92, h93, h⟩ := h
                refine DE.t 11 (v := (Value.pointer (some (a90.add (x64.toNat * 6))))) rfl (by kernel_rfl) (Wn.yes 2 52 true rfl rfl rfl (congrArg Value.bool hb85)) rfl (R.idx (s := r61) sl39 rfl rfl h91 h92 h93) ?_
                refine DE.t 12 (v := (Value.pointer (some (a90.add (x64.toNat * 6))))) rfl (by kernel_rfl) (Wn.yes 2 52 true rfl rfl rfl (congrArg Value.bool hb85)) rfl (R.fld (off := 0) fa33_0 rfl) ?_
                obtain ⟨t94, h95, h⟩ := h
                obtain ⟨t96, h97, h⟩ := h
                refine DE.hold 8 (fun w => w.cell? (a86.add ((IntKind.i64.wrap (x64 - (1 : Int))).toNat * 6)) = some (Value.int .u32 t94) ∧ w.cell? ((a86.add ((IntKind.i64.wrap (x64 - (1 : Int))).toNat * 6)).add 1) = some (Value.int .i64 t96)) (v := (Value.agg #[(Value.int .u32 t94), (Value.int .i64 t96)])) rfl (by kernel_rfl) (Wn.yes 2 52 true rfl rfl rfl (congrArg Value.bool hb85)) rfl ⟨h95, h97⟩ (fun w hs => R.ldA ag30 sz30 rfl rfl (Cs.cons hs.1 (Cs.cons hs.2 Cs.nil))) ?_
                obtain ⟨t98, h99, h⟩ := h
                obtain ⟨t100, h101, h⟩ := h
                refine DE.main 13 (by kernel_rfl) ?_
                refine One.r 13 (v := (Value.agg #[(Value.int .u32 t98), (Value.int .i64 t100)])) rfl (Wn.yes 2 52 true rfl rfl rfl (congrArg Value.bool hb85)) rfl (R.ldA ag30 sz30 rfl rfl (Cs.cons h99 (Cs.cons h101 Cs.nil))) (.inl rfl) ?_
                refine DE.main 14 (by kernel_rfl) ?_
                refine One.c 14 rfl (Wn.yes 2 52 true rfl rfl rfl (congrArg Value.bool hb85)) rfl (R.call bd12 (Ls.cons rfl (Ls.cons rfl Ls.nil)) rfl) (Calls.mono h ?_)
                rintro _ w103 ⟨r102, rfl, h⟩
                refine ⟨_, rfl, ⟨aftT (by kernel_rfl), trivial⟩, ?_⟩
                refine DE.t 15 (v := (Value.bool (!r102))) rfl (by kernel_rfl) (Wn.yes 2 52 true rfl rfl rfl (congrArg Value.bool hb85)) rfl (R.not rfl) ?_
                refine DE.t 16 (v := (Value.bool (!r102))) rfl (by kernel_rfl) (Wn.no rfl) rfl (R.pickT (congrArg Value.bool hb85) rfl) ?_
                refine DE.done (by kernel_rfl) ?_
                exact ⟨_, h, f73, f74, f75, f76, f77, f78, rfl⟩
              · refine DE.u 3 rfl (by kernel_rfl) (Un.no 2 52 true rfl rfl rfl (congrArg Value.bool hb85)) ?_
                refine DE.u 4 rfl (by kernel_rfl) (Un.no 2 52 true rfl rfl rfl (congrArg Value.bool hb85)) ?_
                refine DE.u 5 rfl (by kernel_rfl) (Un.no 2 52 true rfl rfl rfl (congrArg Value.bool hb85)) ?_
                refine DE.u 6 rfl (by kernel_rfl) (Un.no 2 52 true rfl rfl rfl (congrArg Value.bool hb85)) ?_
                refine DE.u 7 rfl (by kernel_rfl) (Un.no 2 52 true rfl rfl rfl (congrArg Value.bool hb85)) ?_
                refine DE.u 8 rfl (by kernel_rfl) (Un.no 2 52 true rfl rfl rfl (congrArg Value.bool hb85)) ?_
                refine DE.u 9 rfl (by kernel_rfl) (Un.no 2 52 true rfl rfl rfl (congrArg Value.bool hb85)) ?_
                refine DE.u 10 rfl (by kernel_rfl) (Un.no 2 52 true rfl rfl rfl (congrArg Value.bool hb85)) ?_
                refine DE.u 11 rfl (by kernel_rfl) (Un.no 2 52 true rfl rfl rfl (congrArg Value.bool hb85)) ?_
                refine DE.u 12 rfl (by kernel_rfl) (Un.no 2 52 true rfl rfl rfl (congrArg Value.bool hb85)) ?_
                refine DE.u 13 rfl (by kernel_rfl) (Un.no 2 52 true rfl rfl rfl (congrArg Value.bool hb85)) ?_
                refine DE.u 14 rfl (by kernel_rfl) (Un.no 2 52 true rfl rfl rfl (congrArg Value.bool hb85)) ?_
                refine DE.u 15 rfl (by kernel_rfl) (Un.no 2 52 true rfl rfl rfl (congrArg Value.bool hb85)) ?_
                refine DE.t 16 (v := (Value.bool false)) rfl (by kernel_rfl) (Wn.no rfl) rfl (R.pickF (congrArg Value.bool hb85) rfl) ?_
                refine DE.done (by kernel_rfl) ?_
                exact ⟨_, h, f73, f74, f75, f76, f77, f78, rfl⟩
            · rintro e104 w105 ⟨x83, h, f106, f107, f108, f109, f110, f111, f112⟩
              subst hJ82
              refine WE.condT rfl (b := x83) f112 ?_ ?_
              · intro hb113
                replace h := M.ite_t h hb113
                refine WE.seq ?_
                refine WE.reg ?_
                refine LE.p (v := (Value.bool false)) (Wn.no rfl) rfl (R.assign rfl) ?_
                refine LE.nil ?_
                refine WE.ret ?_
                exact ⟨_, (Res.tmp rfl Res.nil), _, rfl, h⟩
              · intro hb113
                replace h := M.ite_f h hb113
                refine WE.skip ?_
                refine WE.seq ?_
                obtain ⟨J114, hJ114, h⟩ := M.join_use h
                refine WE.drawJ (fun e w => ∃ (x115 : Bool), J114 x115 w ∧ e 1 = (Value.int .u32 (bOr .u32 (3221225984 : Int) (Int.tmod p1 (16 : Int)))) ∧ e 7 = (Value.pointer (some b58)) ∧ e 8 = (Value.bool r55) ∧ e 9 = (SV.v r61) ∧ e 10 = (Value.int .i64 x63) ∧ e 11 = (Value.int .i64 x64) ∧ e 101 = (Value.bool x115)) mix ?_ ?_
                · clear hJ114
                  obtain ⟨w116, hww116, h⟩ := M.drew_use h
                  rw [← hww116]
                  clear hww116
                  refine DE.t 0 (v := (SV.v r61)) rfl (by kernel_rfl) (Wn.no rfl) rfl (R.move f109) ?_
                  refine DE.t 1 (v := (Value.int .i64 x64)) rfl (by kernel_rfl) (Wn.no rfl) rfl (R.move f111) ?_
                  obtain ⟨a117, h118, h119, h120, h⟩ := h
                  refine DE.t 2 (v := (Value.pointer (some (a117.add (x64.toNat * 6))))) rfl (by kernel_rfl) (Wn.no rfl) rfl (R.idx (s := r61) sl39 rfl rfl h118 h119 h120) ?_
                  refine DE.t 3 (v := (Value.pointer (some (a117.add (x64.toNat * 6))))) rfl (by kernel_rfl) (Wn.no rfl) rfl (R.fld (off := 0) fa33_0 rfl) ?_
                  refine DE.t 5 (v := (Value.int .u32 (bOr .u32 (3221225984 : Int) (Int.tmod p1 (16 : Int))))) rfl (by kernel_rfl) (Wn.no rfl) rfl (R.move f106) ?_
                  obtain ⟨t121, h122, h⟩ := h
                  obtain ⟨t123, h124, h⟩ := h
                  refine DE.main 4 (by kernel_rfl) ?_
                  refine One.r 4 (v := (Value.agg #[(Value.int .u32 t121), (Value.int .i64 t123)])) rfl (Wn.no rfl) rfl (R.ldA ag30 sz30 rfl rfl (Cs.cons h122 (Cs.cons h124 Cs.nil))) (.inl rfl) ?_
                  refine DE.main 6 (by kernel_rfl) ?_
                  refine One.c 6 rfl (Wn.no rfl) rfl (R.call bd13 (Ls.cons rfl (Ls.cons rfl Ls.nil)) rfl) (Calls.mono h ?_)
                  rintro _ w126 ⟨r125, rfl, h⟩
                  refine ⟨_, rfl, trivial, ?_⟩
                  refine DE.t 7 (v := (Value.bool r125)) rfl (by kernel_rfl) (Wn.no rfl) rfl (R.move rfl) ?_
                  rcases M.ite_use h with ⟨hb127, h⟩ | ⟨hb127, h⟩
                  · refine DE.t 8 (v := (SV.v r61)) rfl (by kernel_rfl) (Wn.yes 7 74 true rfl rfl rfl (congrArg Value.bool hb127)) rfl (R.move f109) ?_
                    refine DE.t 9 (v := (Value.int .i64 x64)) rfl (by kernel_rfl) (Wn.yes 7 74 true rfl rfl rfl (congrArg Value.bool hb127)) rfl (R.move f111) ?_
                    obtain ⟨a128, h129, h130, h131, h⟩ := h
                    refine DE.t 10 (v := (Value.pointer (some (a128.add (x64.toNat * 6))))) rfl (by kernel_rfl) (Wn.yes 7 74 true rfl rfl rfl (congrArg Value.bool hb127)) rfl (R.idx (s := r61) sl39 rfl rfl h129 h130 h131) ?_
                    refine DE.t 11 (v := (Value.pointer (some ((a128.add (x64.toNat * 6)).add 5)))) rfl (by kernel_rfl) (Wn.yes 7 74 true rfl rfl rfl (congrArg Value.bool hb127)) rfl (R.fld (off := 5) fa33_4 rfl) ?_
                    obtain ⟨t132, h133, h⟩ := h
                    refine DE.main 12 (by kernel_rfl) ?_
                    refine One.r 12 (v := (Value.float .f64 t132)) rfl (Wn.yes 7 74 true rfl rfl rfl (congrArg Value.bool hb127)) rfl (R.ld sc31 rfl h133) (.inl rfl) ?_
                    refine DE.main 13 (by kernel_rfl) ?_
                    refine One.c 13 rfl (Wn.yes 7 74 true rfl rfl rfl (congrArg Value.bool hb127)) rfl (R.call bd14 (Ls.cons rfl (Ls.cons rfl Ls.nil)) rfl) (Calls.mono h ?_)
                    rintro _ w135 ⟨r134, rfl, h⟩
                    refine ⟨_, rfl, trivial, ?_⟩
                    refine DE.t 14 (v := (Value.bool (!r134))) rfl (by kernel_rfl) (Wn.yes 7 74 true rfl rfl rfl (congrArg Value.bool hb127)) rfl (R.not rfl) ?_
                    refine DE.t 15 (v := (Value.bool (!r134))) rfl (by kernel_rfl) (Wn.no rfl) rfl (R.pickT (congrArg Value.bool hb127) rfl) ?_
                    refine DE.t 16 (v := (Value.bool (!r134))) rfl (by kernel_rfl) (Wn.no rfl) rfl (R.move rfl) ?_
                    rcases M.ite_use h with ⟨hb136, h⟩ | ⟨hb136, h⟩
                    · refine DE.t 17 (v := (Value.int .i64 x63)) rfl (by kernel_rfl) (Wn.yes 16 83 true rfl rfl rfl (congrArg Value.bool hb136)) rfl (R.move f110) ?_
                      refine DE.t 18 (v := (Value.bool (decide (x63 < (0 : Int))))) rfl (by kernel_rfl) (Wn.yes 16 83 true rfl rfl rfl (congrArg Value.bool hb136)) rfl (R.lss rfl rfl) ?_
                      refine DE.t 19 (v := (Value.bool (decide (x63 < (0 : Int))))) rfl (by kernel_rfl) (Wn.yes 16 83 true rfl rfl rfl (congrArg Value.bool hb136)) rfl (R.move rfl) ?_
                      rcases M.ite_use h with ⟨hb137, h⟩ | ⟨hb137, h⟩
                      · refine DE.u 20 rfl (by kernel_rfl) (Un.no 19 86 false rfl rfl rfl (congrArg Value.bool hb137)) ?_
                        refine DE.u 21 rfl (by kernel_rfl) (Un.no 19 86 false rfl rfl rfl (congrArg Value.bool hb137)) ?_
                        refine DE.u 22 rfl (by kernel_rfl) (Un.no 19 86 false rfl rfl rfl (congrArg Value.bool hb137)) ?_
                        refine DE.u 23 rfl (by kernel_rfl) (Un.no 19 86 false rfl rfl rfl (congrArg Value.bool hb137)) ?_
                        refine DE.u 24 rfl (by kernel_rfl) (Un.no 19 86 false rfl rfl rfl (congrArg Value.bool hb137)) ?_
                        refine DE.u 25 rfl (by kernel_rfl) (Un.no 19 86 false rfl rfl rfl (congrArg Value.bool hb137)) ?_
                        refine DE.u 26 rfl (by kernel_rfl) (Un.no 19 86 false rfl rfl rfl (congrArg Value.bool hb137)) ?_
                        refine DE.u 27 rfl (by kernel_rfl) (Un.no 19 86 false rfl rfl rfl (congrArg Value.bool hb137)) ?_
                        refine DE.u 28 rfl (by kernel_rfl) (Un.no 19 86 false rfl rfl rfl (congrArg Value.bool hb137)) ?_
                        refine DE.u 29 rfl (by kernel_rfl) (Un.no 19 86 false rfl rfl rfl (congrArg Value.bool hb137)) ?_
                        refine DE.u 30 rfl (by kernel_rfl) (Un.no 19 86 false rfl rfl rfl (congrArg Value.bool hb137)) ?_
                        refine DE.u 31 rfl (by kernel_rfl) (Un.no 19 86 false rfl rfl rfl (congrArg Value.bool hb137)) ?_
                        refine DE.u 32 rfl (by kernel_rfl) (Un.no 19 86 false rfl rfl rfl (congrArg Value.bool hb137)) ?_
                        refine DE.t 33 (v := (Value.bool true)) rfl (by kernel_rfl) (Wn.yes 16 83 true rfl rfl rfl (congrArg Value.bool hb136)) rfl (R.pickT (congrArg Value.bool hb137) rfl) ?_
                        refine DE.t 34 (v := (Value.bool true)) rfl (by kernel_rfl) (Wn.no rfl) rfl (R.pickT (congrArg Value.bool hb136) rfl) ?_
                        refine DE.done (by kernel_rfl) ?_
                        exact ⟨_, h, f106, f107, f108, f109, f110, f111, rfl⟩
                      · refine DE.t 20 (v := (SV.v r61)) rfl (by kernel_rfl) (Wn.yes 19 86 false rfl rfl rfl (congrArg Value.bool hb137)) rfl (R.move f109) ?_
                        refine DE.t 21 (v := (Value.int .i64 x64)) rfl (by kernel_rfl) (Wn.yes 19 86 false rfl rfl rfl (congrArg Value.bool hb137)) rfl (R.move f111) ?_
                        obtain ⟨a138, h139, h140, h141, h⟩ := h
                        refine DE.t 22 (v := (Value.pointer (some (a138.add (x64.toNat * 6))))) rfl (by kernel_rfl) (Wn.yes 19 86 false rfl rfl rfl (congrArg Value.bool hb137)) rfl (R.idx (s := r61) sl39 rfl rfl h139 h140 h141) ?_
                        refine DE.t 23 (v := (Value.pointer (some (a138.add (x64.toNat * 6))))) rfl (by kernel_rfl) (Wn.yes 19 86 false rfl rfl rfl (congrArg Value.bool hb137)) rfl (R.fld (off := 0) fa33_0 rfl) ?_
                        refine DE.t 24 (v := (Value.pointer (some ((a138.add (x64.toNat * 6)).add 1)))) rfl (by kernel_rfl) (Wn.yes 19 86 false rfl rfl rfl (congrArg Value.bool hb137)) rfl (R.fld (off := 1) fa30_1 rfl) ?_
                        refine DE.t 26 (v := (SV.v r61)) rfl (by kernel_rfl) (Wn.yes 19 86 false rfl rfl rfl (congrArg Value.bool hb137)) rfl (R.move f109) ?_
                        refine DE.t 27 (v := (Value.int .i64 x63)) rfl (by kernel_rfl) (Wn.yes 19 86 false rfl rfl rfl (congrArg Value.bool hb137)) rfl (R.move f110) ?_
                        obtain ⟨a142, h143, h144, h145, h⟩ := h
                        refine DE.t 28 (v := (Value.pointer (some (a142.add (x63.toNat * 6))))) rfl (by kernel_rfl) (Wn.yes 19 86 false rfl rfl rfl (congrArg Value.bool hb137)) rfl (R.idx (s := r61) sl39 rfl rfl h143 h144 h145) ?_
                        refine DE.t 29 (v := (Value.pointer (some (a142.add (x63.toNat * 6))))) rfl (by kernel_rfl) (Wn.yes 19 86 false rfl rfl rfl (congrArg Value.bool hb137)) rfl (R.fld (off := 0) fa33_0 rfl) ?_
                        refine DE.t 30 (v := (Value.pointer (some ((a142.add (x63.toNat * 6)).add 1)))) rfl (by kernel_rfl) (Wn.yes 19 86 false rfl rfl rfl (congrArg Value.bool hb137)) rfl (R.fld (off := 1) fa30_1 rfl) ?_
                        obtain ⟨t146, h147, h⟩ := h
                        refine DE.hold 25 (fun w => w.cell? ((a138.add (x64.toNat * 6)).add 1) = some (Value.int .i64 t146)) (v := (Value.int .i64 t146)) rfl (by kernel_rfl) (Wn.yes 19 86 false rfl rfl rfl (congrArg Value.bool hb137)) rfl h147 (fun w hs => R.ld sc3 rfl hs) ?_
                        obtain ⟨t148, h149, h⟩ := h
                        refine DE.main 31 (by kernel_rfl) ?_
                        refine One.r 31 (v := (Value.int .i64 t148)) rfl (Wn.yes 19 86 false rfl rfl rfl (congrArg Value.bool hb137)) rfl (R.ld sc3 rfl h149) (.inl rfl) ?_
                        refine DE.t 32 (v := (Value.bool (decide (t148 < t146)))) rfl (by kernel_rfl) (Wn.yes 19 86 false rfl rfl rfl (congrArg Value.bool hb137)) rfl (R.gtr rfl rfl) ?_
                        refine DE.t 33 (v := (Value.bool (decide (t148 < t146)))) rfl (by kernel_rfl) (Wn.yes 16 83 true rfl rfl rfl (congrArg Value.bool hb136)) rfl (R.pickF (congrArg Value.bool hb137) rfl) ?_
                        refine DE.t 34 (v := (Value.bool (decide (t148 < t146)))) rfl (by kernel_rfl) (Wn.no rfl) rfl (R.pickT (congrArg Value.bool hb136) rfl) ?_
                        refine DE.done (by kernel_rfl) ?_
                        exact ⟨_, h, f106, f107, f108, f109, f110, f111, rfl⟩
                    · refine DE.u 17 rfl (by kernel_rfl) (Un.no 16 83 true rfl rfl rfl (congrArg Value.bool hb136)) ?_
                      refine DE.u 18 rfl (by kernel_rfl) (Un.no 16 83 true rfl rfl rfl (congrArg Value.bool hb136)) ?_
                      refine DE.u 19 rfl (by kernel_rfl) (Un.no 16 83 true rfl rfl rfl (congrArg Value.bool hb136)) ?_
                      refine DE.u 20 rfl (by kernel_rfl) (Un.un 19 86 false rfl rfl rfl rfl) ?_
                      refine DE.u 21 rfl (by kernel_rfl) (Un.un 19 86 false rfl rfl rfl rfl) ?_
                      refine DE.u 22 rfl (by kernel_rfl) (Un.un 19 86 false rfl rfl rfl rfl) ?_
                      refine DE.u 23 rfl (by kernel_rfl) (Un.un 19 86 false rfl rfl rfl rfl) ?_
                      refine DE.u 24 rfl (by kernel_rfl) (Un.un 19 86 false rfl rfl rfl rfl) ?_
                      refine DE.u 25 rfl (by kernel_rfl) (Un.un 19 86 false rfl rfl rfl rfl) ?_
                      refine DE.u 26 rfl (by kernel_rfl) (Un.un 19 86 false rfl rfl rfl rfl) ?_
                      refine DE.u 27 rfl (by kernel_rfl) (Un.un 19 86 false rfl rfl rfl rfl) ?_
                      refine DE.u 28 rfl (by kernel_rfl) (Un.un 19 86 false rfl rfl rfl rfl) ?_
                      refine DE.u 29 rfl (by kernel_rfl) (Un.un 19 86 false rfl rfl rfl rfl) ?_
                      refine DE.u 30 rfl (by kernel_rfl) (Un.un 19 86 false rfl rfl rfl rfl) ?_
                      refine DE.u 31 rfl (by kernel_rfl) (Un.un 19 86 false rfl rfl rfl rfl) ?_
                      refine DE.u 32 rfl (by kernel_rfl) (Un.un 19 86 false rfl rfl rfl rfl) ?_
                      refine DE.u 33 rfl (by kernel_rfl) (Un.no 16 83 true rfl rfl rfl (congrArg Value.bool hb136)) ?_
                      refine DE.t 34 (v := (Value.bool false)) rfl (by kernel_rfl) (Wn.no rfl) rfl (R.pickF (congrArg Value.bool hb136) rfl) ?_
                      refine DE.done (by kernel_rfl) ?_
                      exact ⟨_, h, f106, f107, f108, f109, f110, f111, rfl⟩
                  · refine DE.u 8 rfl (by kernel_rfl) (Un.no 7 74 true rfl rfl rfl (congrArg Value.bool hb127)) ?_
                    refine DE.u 9 rfl (by kernel_rfl) (Un.no 7 74 true rfl rfl rfl (congrArg Value.bool hb127)) ?_
                    refine DE.u 10 rfl (by kernel_rfl) (Un.no 7 74 true rfl rfl rfl (congrArg Value.bool hb127)) ?_
                    refine DE.u 11 rfl (by kernel_rfl) (Un.no 7 74 true rfl rfl rfl (congrArg Value.bool hb127)) ?_
                    refine DE.u 12 rfl (by kernel_rfl) (Un.no 7 74 true rfl rfl rfl (congrArg Value.bool hb127)) ?_
                    refine DE.u 13 rfl (by kernel_rfl) (Un.no 7 74 true rfl rfl rfl (congrArg Value.bool hb127)) ?_
                    refine DE.u 14 rfl (by kernel_rfl) (Un.no 7 74 true rfl rfl rfl (congrArg Value.bool hb127)) ?_
                    refine DE.t 15 (v := (Value.bool false)) rfl (by kernel_rfl) (Wn.no rfl) rfl (R.pickF (congrArg Value.bool hb127) rfl) ?_
                    refine DE.t 16 (v := (Value.bool false)) rfl (by kernel_rfl) (Wn.no rfl) rfl (R.move rfl) ?_
                    refine DE.u 17 rfl (by kernel_rfl) (Un.no 16 83 true rfl rfl rfl rfl) ?_
                    refine DE.u 18 rfl (by kernel_rfl) (Un.no 16 83 true rfl rfl rfl rfl) ?_
                    refine DE.u 19 rfl (by kernel_rfl) (Un.no 16 83 true rfl rfl rfl rfl) ?_
                    refine DE.u 20 rfl (by kernel_rfl) (Un.un 19 86 false rfl rfl rfl rfl) ?_
                    refine DE.u 21 rfl (by kernel_rfl) (Un.un 19 86 false rfl rfl rfl rfl) ?_
                    refine DE.u 22 rfl (by kernel_rfl) (Un.un 19 86 false rfl rfl rfl rfl) ?_
                    refine DE.u 23 rfl (by kernel_rfl) (Un.un 19 86 false rfl rfl rfl rfl) ?_
                    refine DE.u 24 rfl (by kernel_rfl) (Un.un 19 86 false rfl rfl rfl rfl) ?_
                    refine DE.u 25 rfl (by kernel_rfl) (Un.un 19 86 false rfl rfl rfl rfl) ?_
                    refine DE.u 26 rfl (by kernel_rfl) (Un.un 19 86 false rfl rfl rfl rfl) ?_
                    refine DE.u 27 rfl (by kernel_rfl) (Un.un 19 86 false rfl rfl rfl rfl) ?_
                    refine DE.u 28 rfl (by kernel_rfl) (Un.un 19 86 false rfl rfl rfl rfl) ?_
                    refine DE.u 29 rfl (by kernel_rfl) (Un.un 19 86 false rfl rfl rfl rfl) ?_
                    refine DE.u 30 rfl (by kernel_rfl) (Un.un 19 86 false rfl rfl rfl rfl) ?_
                    refine DE.u 31 rfl (by kernel_rfl) (Un.un 19 86 false rfl rfl rfl rfl) ?_
                    refine DE.u 32 rfl (by kernel_rfl) (Un.un 19 86 false rfl rfl rfl rfl) ?_
                    refine DE.u 33 rfl (by kernel_rfl) (Un.no 16 83 true rfl rfl rfl rfl) ?_
                    refine DE.t 34 (v := (Value.bool false)) rfl (by kernel_rfl) (Wn.no rfl) rfl (R.pickF rfl rfl) ?_
                    refine DE.done (by kernel_rfl) ?_
                    exact ⟨_, h, f106, f107, f108, f109, f110, f111, rfl⟩
                · rintro e150 w151 ⟨x115, h, f152, f153, f154, f155, f156, f157, f158⟩
                  subst hJ114
                  refine WE.condT rfl (b := x115) f158 ?_ ?_
                  · intro hb159
                    replace h := M.ite_t h hb159
                    refine WE.reg ?_
                    refine LE.p (v := (Value.int .i64 x64)) (Wn.no rfl) rfl (R.move f157) ?_
                    refine LE.p (v := (Value.int .i64 x64)) (Wn.no rfl) rfl (R.assign rfl) ?_
                    refine LE.nil ?_
                    exact ⟨_, h, f152, f153, f154, f155, rfl, f157⟩
                  · intro hb159
                    replace h := M.ite_f h hb159
                    refine WE.skip ?_
                    exact ⟨_, h, f152, f153, f154, f155, f156, f157⟩
          · rintro e160 w161 ⟨x81, h, f162, f163, f164, f165, f166, f167⟩
            subst hJ80
            refine WE.reg ?_
            refine LE.p (v := (Value.int .i64 x64)) (Wn.no rfl) rfl (R.move f167) ?_
            refine LE.p (v := (Value.int .i64 (IntKind.i64.wrap (x64 + (1 : Int))))) (Wn.no rfl) rfl (R.add rfl rfl) ?_
            refine LE.p (v := (Value.int .i64 (IntKind.i64.wrap (x64 + (1 : Int))))) (Wn.no rfl) rfl (R.assign rfl) ?_
            refine LE.nil ?_
            obtain ⟨m71, hm72, h⟩ := h
            exact ⟨m71, hm72, _, _, h, f162, f163, f164, f165, f166, rfl⟩
        · intro hb79
          replace h := M.ite_f h hb79
          refine WE.exit ?_
          refine WE.seq ?_
          obtain ⟨J168, hJ168, h⟩ := M.join_use h
          refine WE.drawJ (fun e w => ∃ (x169 : Bool), J168 x169 w ∧ e 4 = (Value.bool x169)) mix ?_ ?_
          · clear hJ168
            obtain ⟨w170, hww170, h⟩ := M.drew_use h
            rw [← hww170]
            clear hww170
            refine DE.t 0 (v := (Value.bool r55)) rfl (by kernel_rfl) (Wn.no rfl) rfl (R.move f75) ?_
            refine DE.t 1 (v := (Value.int .i64 x63)) rfl (by kernel_rfl) (Wn.no rfl) rfl (R.move f77) ?_
            refine DE.t 2 (v := (Value.bool (decide ((0 : Int) ≤ x63)))) rfl (by kernel_rfl) (Wn.no rfl) rfl (R.geq rfl rfl) ?_
            refine DE.t 3 (v := (Value.bool (r55 == (decide ((0 : Int) ≤ x63))))) rfl (by kernel_rfl) (Wn.no rfl) rfl (R.beql bo4 rfl rfl) ?_
            refine DE.t 4 (v := (Value.bool (r55 == (decide ((0 : Int) ≤ x63))))) rfl (by kernel_rfl) (Wn.no rfl) rfl (R.move rfl) ?_
            rcases M.ite_use h with ⟨hb171, h⟩ | ⟨hb171, h⟩
            · refine DE.t 5 (v := (Value.bool r55)) rfl (by kernel_rfl) (Wn.yes 4 107 true rfl rfl rfl (congrArg Value.bool hb171)) rfl (R.move f75) ?_
              refine DE.t 6 (v := (Value.bool (!r55))) rfl (by kernel_rfl) (Wn.yes 4 107 true rfl rfl rfl (congrArg Value.bool hb171)) rfl (R.not rfl) ?_
              refine DE.t 7 (v := (Value.bool (!r55))) rfl (by kernel_rfl) (Wn.yes 4 107 true rfl rfl rfl (congrArg Value.bool hb171)) rfl (R.move rfl) ?_
              rcases M.ite_use h with ⟨hb172, h⟩ | ⟨hb172, h⟩
              · refine DE.u 8 rfl (by kernel_rfl) (Un.no 7 110 false rfl rfl rfl (congrArg Value.bool hb172)) ?_
                refine DE.u 9 rfl (by kernel_rfl) (Un.no 7 110 false rfl rfl rfl (congrArg Value.bool hb172)) ?_
                refine DE.u 10 rfl (by kernel_rfl) (Un.no 7 110 false rfl rfl rfl (congrArg Value.bool hb172)) ?_
                refine DE.u 11 rfl (by kernel_rfl) (Un.no 7 110 false rfl rfl rfl (congrArg Value.bool hb172)) ?_
                refine DE.u 12 rfl (by kernel_rfl) (Un.no 7 110 false rfl rfl rfl (congrArg Value.bool hb172)) ?_
                refine DE.u 13 rfl (by kernel_rfl) (Un.no 7 110 false rfl rfl rfl (congrArg Value.bool hb172)) ?_
                refine DE.t 14 (v := (Value.bool true)) rfl (by kernel_rfl) (Wn.yes 4 107 true rfl rfl rfl (congrArg Value.bool hb171)) rfl (R.pickT (congrArg Value.bool hb172) rfl) ?_
                refine DE.t 15 (v := (Value.bool true)) rfl (by kernel_rfl) (Wn.no rfl) rfl (R.pickT (congrArg Value.bool hb171) rfl) ?_
                refine DE.t 16 (v := (Value.bool true)) rfl (by kernel_rfl) (Wn.no rfl) rfl (R.move rfl) ?_
                refine DE.main 17 (by kernel_rfl) ?_
                refine One.c 17 rfl (Wn.yes 16 119 true rfl rfl rfl rfl) rfl (R.call bd16 Ls.nil rfl) (Calls.mono h ?_)
                rintro _ w174 ⟨r173, rfl, h⟩
                refine ⟨_, rfl, trivial, ?_⟩
                refine DE.t 18 (v := (Value.bool r173)) rfl (by kernel_rfl) (Wn.no rfl) rfl (R.pickT rfl rfl) ?_
                refine DE.t 19 (v := (Value.bool r173)) rfl (by kernel_rfl) (Wn.no rfl) rfl (R.assign rfl) ?_
                refine DE.done (by kernel_rfl) ?_
                exact ⟨_, h, rfl⟩
              · refine DE.t 9 (v := (SV.v r61)) rfl (by kernel_rfl) (Wn.yes 7 110 false rfl rfl rfl (congrArg Value.bool hb172)) rfl (R.move f76) ?_
                refine DE.t 10 (v := (Value.int .i64 x63)) rfl (by kernel_rfl) (Wn.yes 7 110 false rfl rfl rfl (congrArg Value.bool hb172)) rfl (R.move f77) ?_
                obtain ⟨a175, h176, h177, h178, h⟩ := h
                refine DE.t 11 (v := (Value.pointer (some (a175.add (x63.toNat * 6))))) rfl (by kernel_rfl) (Wn.yes 7 110 false rfl rfl rfl (congrArg Value.bool hb172)) rfl (R.idx (s := r61) sl39 rfl rfl h176 h177 h178) ?_
                obtain ⟨t179, t180, t181, t182, t183, t184, h185, h⟩ := h
                refine DE.hold 8 (fun w => Cs w b58 0 [(Value.int .u32 t179), (Value.int .i64 t180), (Value.bool t181), (Value.int .i64 t182), (Value.int .u32 t183), (Value.float .f64 t184)]) (v := (Value.agg #[(Value.int .u32 t179), (Value.int .i64 t180), (Value.bool t181), (Value.int .i64 t182), (Value.int .u32 t183), (Value.float .f64 t184)])) rfl (by kernel_rfl) (Wn.yes 7 110 false rfl rfl rfl (congrArg Value.bool hb172)) rfl h185 (fun w hs => R.ldA ag33 sz33 f74 rfl hs) ?_
                obtain ⟨t186, t187, t188, t189, t190, t191, h192, h⟩ := h
                refine DE.main 12 (by kernel_rfl) ?_
                refine One.r 12 (v := (Value.agg #[(Value.int .u32 t186), (Value.int .i64 t187), (Value.bool t188), (Value.int .i64 t189), (Value.int .u32 t190), (Value.float .f64 t191)])) rfl (Wn.yes 7 110 false rfl rfl rfl (congrArg Value.bool hb172)) rfl (R.ldA ag33 sz33 rfl rfl h192) (.inl rfl) ?_
                refine DE.main 13 (by kernel_rfl) ?_
                refine One.c 13 rfl (Wn.yes 7 110 false rfl rfl rfl (congrArg Value.bool hb172)) rfl (R.call bd15 (Ls.cons rfl (Ls.cons rfl Ls.nil)) rfl) (Calls.mono h ?_)
                rintro _ w194 ⟨r193, rfl, h⟩
                refine ⟨_, rfl, ⟨aftT (by kernel_rfl), trivial⟩, ?_⟩
                refine DE.t 14 (v := (Value.bool r193)) rfl (by kernel_rfl) (Wn.yes 4 107 true rfl rfl rfl (congrArg Value.bool hb171)) rfl (R.pickF (congrArg Value.bool hb172) rfl) ?_
                refine DE.t 15 (v := (Value.bool r193)) rfl (by kernel_rfl) (Wn.no rfl) rfl (R.pickT (congrArg Value.bool hb171) rfl) ?_
                refine DE.t 16 (v := (Value.bool r193)) rfl (by kernel_rfl) (Wn.no rfl) rfl (R.move rfl) ?_
                rcases M.ite_use h with ⟨hb195, h⟩ | ⟨hb195, h⟩
                · refine DE.main 17 (by kernel_rfl) ?_
                  refine One.c 17 rfl (Wn.yes 16 119 true rfl rfl rfl (congrArg Value.bool hb195)) rfl (R.call bd16 Ls.nil rfl) (Calls.mono h ?_)
                  rintro _ w197 ⟨r196, rfl, h⟩
                  refine ⟨_, rfl, ⟨aftT (by kernel_rfl), trivial⟩, ?_⟩
                  refine DE.t 18 (v := (Value.bool r196)) rfl (by kernel_rfl) (Wn.no rfl) rfl (R.pickT (congrArg Value.bool hb195) rfl) ?_
                  refine DE.t 19 (v := (Value.bool r196)) rfl (by kernel_rfl) (Wn.no rfl) rfl (R.assign rfl) ?_
                  refine DE.done (by kernel_rfl) ?_
                  exact ⟨_, h, rfl⟩
                · refine DE.u 17 rfl (by kernel_rfl) (Un.no 16 119 true rfl rfl rfl (congrArg Value.bool hb195)) ?_
                  refine DE.t 18 (v := (Value.bool false)) rfl (by kernel_rfl) (Wn.no rfl) rfl (R.pickF (congrArg Value.bool hb195) rfl) ?_
                  refine DE.t 19 (v := (Value.bool false)) rfl (by kernel_rfl) (Wn.no rfl) rfl (R.assign rfl) ?_
                  refine DE.done (by kernel_rfl) ?_
                  exact ⟨_, h, rfl⟩
            · refine DE.u 5 rfl (by kernel_rfl) (Un.no 4 107 true rfl rfl rfl (congrArg Value.bool hb171)) ?_
              refine DE.u 6 rfl (by kernel_rfl) (Un.no 4 107 true rfl rfl rfl (congrArg Value.bool hb171)) ?_
              refine DE.u 7 rfl (by kernel_rfl) (Un.no 4 107 true rfl rfl rfl (congrArg Value.bool hb171)) ?_
              refine DE.u 8 rfl (by kernel_rfl) (Un.un 7 110 false rfl rfl rfl rfl) ?_
              refine DE.u 9 rfl (by kernel_rfl) (Un.un 7 110 false rfl rfl rfl rfl) ?_
              refine DE.u 10 rfl (by kernel_rfl) (Un.un 7 110 false rfl rfl rfl rfl) ?_
              refine DE.u 11 rfl (by kernel_rfl) (Un.un 7 110 false rfl rfl rfl rfl) ?_
              refine DE.u 12 rfl (by kernel_rfl) (Un.un 7 110 false rfl rfl rfl rfl) ?_
              refine DE.u 13 rfl (by kernel_rfl) (Un.un 7 110 false rfl rfl rfl rfl) ?_
              refine DE.u 14 rfl (by kernel_rfl) (Un.no 4 107 true rfl rfl rfl (congrArg Value.bool hb171)) ?_
              refine DE.t 15 (v := (Value.bool false)) rfl (by kernel_rfl) (Wn.no rfl) rfl (R.pickF (congrArg Value.bool hb171) rfl) ?_
              refine DE.t 16 (v := (Value.bool false)) rfl (by kernel_rfl) (Wn.no rfl) rfl (R.move rfl) ?_
              refine DE.u 17 rfl (by kernel_rfl) (Un.no 16 119 true rfl rfl rfl rfl) ?_
              refine DE.t 18 (v := (Value.bool false)) rfl (by kernel_rfl) (Wn.no rfl) rfl (R.pickF rfl rfl) ?_
              refine DE.t 19 (v := (Value.bool false)) rfl (by kernel_rfl) (Wn.no rfl) rfl (R.assign rfl) ?_
              refine DE.done (by kernel_rfl) ?_
              exact ⟨_, h, rfl⟩
          · rintro e198 w199 ⟨x169, h, f200⟩
            subst hJ168
            refine WE.ret ?_
            exact ⟨_, (Res.tmp f200 Res.nil), _, rfl, h⟩
/-- The formula of signpost.signpostlaw15.IgpPlays. -/
def F4 (p0 : SV) (K : Bool → World → Prop) (w0 : World) : Prop :=
Calls Try.prog 7 #[] w0 (R7 fun r1 w2 =>
M.new (.cells #[(SV.v SV.nil)] 49) w2 fun b4 w3 =>
M.ite (Option.isNone r1) (
K false w3) (
M.loop1 (fun (J7 : Int → World → Prop) (x6 : Int) (w8 : World) => 
M.join (fun (x20 : Bool) (w23 : World) => 
M.ite x20 (
M.idx p0 x6 9 fun a30 =>
∃ (t34 : Int) (t35 : Int) (t36 : Int) (t37 : Bool) (t38 : Int) (t39 : Int) (t40 : Nat) (t41 : Int) (t42 : Bool), Cs w23 (a30.add (x6.toNat * 9)) 0 [(Value.int .i64 t34), (Value.int .u32 t35), (Value.int .i64 t36), (Value.bool t37), (Value.int .i64 t38), (Value.int .u32 t39), (Value.float .f64 t40), (Value.int .u32 t41), (Value.bool t42)] ∧
Calls Try.prog 17 #[(Value.pointer r1), (Value.pointer (some b4)), (Value.agg #[(Value.int .i64 t34), (Value.int .u32 t35), (Value.int .i64 t36), (Value.bool t37), (Value.int .i64 t38), (Value.int .u32 t39), (Value.float .f64 t40), (Value.int .u32 t41), (Value.bool t42)])] w23 (R17 fun r44 w45 =>
M.ite (!r44) (
K false w45) (
J7 (IntKind.i64.wrap (x6 + (1 : Int))) w45))) (
M.join (fun (x48 : Bool) (w55 : World) => 
K x48 w55) fun J47 => 
Calls Try.prog 18 #[(Value.pointer r1), (Value.pointer (some b4))] w23 (R18 fun r49 w50 =>
M.ite r49 (
Calls Try.prog 16 #[] w50 (R16 fun r52 w53 =>
J47 r52 w53)) (
J47 false w50)))) fun J19 => 
M.ite (decide (x6 < (p0.len : Int))) (
J19 (decide (x6 < (60 : Int))) w8) (
J19 false w8)) (0 : Int) w3))
theorem F4_ok {w0 : World} {p0 : SV} {K : Bool → World → Prop} (h : F4 p0 K w0) : Calls Try.prog 4 #[(SV.v p0)] w0 (R4 K) := by
  refine calls_of_WE (args := [(SV.v p0)]) (rs := [.tmp 2]) Try.func4 rfl (N := 35) rfl rfl rfl rfl ?_
  refine WE.seq ?_
  refine WE.reg ?_
  refine LE.p (v := (Value.bool false)) (Wn.no rfl) rfl (R.assign rfl) ?_
  refine LE.nil ?_
  refine WE.seq ?_
  refine WE.reg ?_
  refine LE.c (Wn.no rfl) rfl (R.call bd7 Ls.nil rfl) (Calls.mono h ?_)
  rintro _ w2 ⟨r1, rfl, h⟩
  refine ⟨_, rfl, ?_⟩
  refine LE.p (v := (Value.pointer r1)) (Wn.no rfl) rfl (R.assign rfl) ?_
  refine LE.nil ?_
  refine WE.seq ?_
  refine WE.reg ?_
  refine LE.p (v := (Value.agg #[(SV.v SV.nil)])) (Wn.no rfl) rfl (R.bld (by exact Ls.nil) (fun w => bu49_  w)) ?_
  obtain ⟨b4, hpb4, w3, hww3, h⟩ := M.new_use h
  refine LE.r (v := (Value.pointer (some b4))) (Wn.no rfl) rfl (R.box (cs := #[(SV.v SV.nil)]) rfl rfl hpb4 hww3) ?_
  refine LE.p (v := (Value.pointer (some b4))) (Wn.no rfl) rfl (R.assign rfl) ?_
  refine LE.nil ?_
  refine WE.seq ?_
  refine WE.seq ?_
  refine WE.reg ?_
  refine LE.p (v := (Value.pointer r1)) (Wn.no rfl) rfl (R.move rfl) ?_
  refine LE.p (v := (Value.bool (Option.isNone r1))) (Wn.no rfl) rfl (R.peqNil pt24 rfl rfl) ?_
  refine LE.nil ?_
  refine WE.condT rfl (b := (Option.isNone r1)) rfl ?_ ?_
  · intro hb5
    replace h := M.ite_t h hb5
    refine WE.seq ?_
    refine WE.reg ?_
    refine LE.p (v := (Value.bool false)) (Wn.no rfl) rfl (R.assign rfl) ?_
    refine LE.nil ?_
    refine WE.ret ?_
    exact ⟨_, (Res.tmp rfl Res.nil), _, rfl, h⟩
  · intro hb5
    replace h := M.ite_f h hb5
    refine WE.skip ?_
    refine WE.seq ?_
    refine WE.seq ?_
    refine WE.reg ?_
    refine LE.p (v := (Value.int .i64 (0 : Int))) (Wn.no rfl) rfl (R.assign rfl) ?_
    refine LE.nil ?_
    refine WE.block ?_
    obtain ⟨I11, ⟨n10, h⟩, hr12⟩ := h
    refine WE.loop (fun n e w => ∃ (x6 : Int), I11 n x6 w ∧ e 0 = (SV.v p0) ∧ e 3 = (Value.pointer r1) ∧ e 4 = (Value.pointer (some b4)) ∧ e 5 = (Value.int .i64 x6)) n10 ⟨_, h, rfl, rfl, rfl, rfl⟩ ?_
    clear h
    rintro n10 e9 w8 ⟨x6, h, f15, f16, f17, f18⟩
    replace h := hr12 n10 x6 w8 h
    refine WE.seq ?_
    refine WE.seq ?_
    obtain ⟨J19, hJ19, h⟩ := M.join_use h
    refine WE.regJ (fun e w => ∃ (x20 : Bool), J19 x20 w ∧ e 0 = (SV.v p0) ∧ e 3 = (Value.pointer r1) ∧ e 4 = (Value.pointer (some b4)) ∧ e 5 = (Value.int .i64 x6) ∧ e 18 = (Value.bool x20)) ?_ ?_
    · clear hJ19
      refine LE.p (v := (Value.int .i64 x6)) (Wn.no rfl) rfl (R.move f18) ?_
      refine LE.p (v := (SV.v p0)) (Wn.no rfl) rfl (R.move f15) ?_
      refine LE.p (v := (Value.int .i64 (p0.len : Int))) (Wn.no rfl) rfl (R.len sl22 rfl) ?_
      refine LE.p (v := (Value.bool (decide (x6 < (p0.len : Int))))) (Wn.no rfl) rfl (R.lss rfl rfl) ?_
      refine LE.p (v := (Value.bool (decide (x6 < (p0.len : Int))))) (Wn.no rfl) rfl (R.move rfl) ?_
      rcases M.ite_use h with ⟨hb21, h⟩ | ⟨hb21, h⟩
      · refine LE.p (v := (Value.int .i64 x6)) (Wn.yes 4 15 true rfl rfl rfl (congrArg Value.bool hb21)) rfl (R.move f18) ?_
        refine LE.p (v := (Value.bool (decide (x6 < (60 : Int))))) (Wn.yes 4 15 true rfl rfl rfl (congrArg Value.bool hb21)) rfl (R.lss rfl rfl) ?_
        refine LE.p (v := (Value.bool (decide (x6 < (60 : Int))))) (Wn.no rfl) rfl (R.pickT (congrArg Value.bool hb21) rfl) ?_
        refine LE.nil ?_
        exact ⟨_, h, f15, f16, f17, f18, rfl⟩
      · refine LE.u (Un.no 4 15 true rfl rfl rfl (congrArg Value.bool hb21)) ?_
        refine LE.u (Un.no 4 15 true rfl rfl rfl (congrArg Value.bool hb21)) ?_
        refine LE.p (v := (Value.bool false)) (Wn.no rfl) rfl (R.pickF (congrArg Value.bool hb21) rfl) ?_
        refine LE.nil ?_
        exact ⟨_, h, f15, f16, f17, f18, rfl⟩
    · rintro e22 w23 ⟨x20, h, f24, f25, f26, f27, f28⟩
      subst hJ19
      refine WE.condT rfl (b := x20) f28 ?_ ?_
      · intro hb29
        replace h := M.ite_t h hb29
        refine WE.skip ?_
        refine WE.seq ?_
        refine WE.block ?_
        refine WE.seq ?_
        refine WE.reg ?_
        refine LE.p (v := (Value.pointer r1)) (Wn.no rfl) rfl (R.move f25) ?_
        refine LE.p (v := (Value.pointer (some b4))) (Wn.no rfl) rfl (R.move f26) ?_
        refine LE.p (v := (SV.v p0)) (Wn.no rfl) rfl (R.move f24) ?_
        refine LE.p (v := (Value.int .i64 x6)) (Wn.no rfl) rfl (R.move f27) ?_
        obtain ⟨a30, h31, h32, h33, h⟩ := h
        refine LE.p (v := (Value.pointer (some (a30.add (x6.toNat * 9))))) (Wn.no rfl) rfl (R.idx (s := p0) sl22 rfl rfl h31 h32 h33) ?_
        obtain ⟨t34, t35, t36, t37, t38, t39, t40, t41, t42, h43, h⟩ := h
        refine LE.r (v := (Value.agg #[(Value.int .i64 t34), (Value.int .u32 t35), (Value.int .i64 t36), (Value.bool t37), (Value.int .i64 t38), (Value.int .u32 t39), (Value.float .f64 t40), (Value.int .u32 t41), (Value.bool t42)])) (Wn.no rfl) rfl (R.ldA ag36 sz36 rfl rfl h43) ?_
        refine LE.c (Wn.no rfl) rfl (R.call bd17 (Ls.cons rfl (Ls.cons rfl (Ls.cons rfl Ls.nil))) rfl) (Calls.mono h ?_)
        rintro _ w45 ⟨r44, rfl, h⟩
        refine ⟨_, rfl, ?_⟩
        refine LE.p (v := (Value.bool (!r44))) (Wn.no rfl) rfl (R.not rfl) ?_
        refine LE.nil ?_
        refine WE.condT rfl (b := (!r44)) rfl ?_ ?_
        · intro hb46
          replace h := M.ite_t h hb46
          refine WE.seq ?_
          refine WE.reg ?_
          refine LE.p (v := (Value.bool false)) (Wn.no rfl) rfl (R.assign rfl) ?_
          refine LE.nil ?_
          refine WE.ret ?_
          exact ⟨_, (Res.tmp rfl Res.nil), _, rfl, h⟩
        · intro hb46
          replace h := M.ite_f h hb46
          refine WE.skip ?_
          refine WE.reg ?_
          refine LE.p (v := (Value.int .i64 x6)) (Wn.no rfl) rfl (R.move f27) ?_
          refine LE.p (v := (Value.int .i64 (IntKind.i64.wrap (x6 + (1 : Int))))) (Wn.no rfl) rfl (R.add rfl rfl) ?_
          refine LE.p (v := (Value.int .i64 (IntKind.i64.wrap (x6 + (1 : Int))))) (Wn.no rfl) rfl (R.assign rfl) ?_
          refine LE.nil ?_
          obtain ⟨m13, hm14, h⟩ := h
          exact ⟨m13, hm14, _, h, f24, f25, f26, rfl⟩
      · intro hb29
        replace h := M.ite_f h hb29
        refine WE.exit ?_
        refine WE.seq ?_
        obtain ⟨J47, hJ47, h⟩ := M.join_use h
        refine WE.regJ (fun e w => ∃ (x48 : Bool), J47 x48 w ∧ e 2 = (Value.bool x48)) ?_ ?_
        · clear hJ47
          refine LE.p (v := (Value.pointer r1)) (Wn.no rfl) rfl (R.move f25) ?_
          refine LE.p (v := (Value.pointer (some b4))) (Wn.no rfl) rfl (R.move f26) ?_
          refine LE.c (Wn.no rfl) rfl (R.call bd18 (Ls.cons rfl (Ls.cons rfl Ls.nil)) rfl) (Calls.mono h ?_)
          rintro _ w50 ⟨r49, rfl, h⟩
          refine ⟨_, rfl, ?_⟩
          refine LE.p (v := (Value.bool r49)) (Wn.no rfl) rfl (R.move rfl) ?_
          rcases M.ite_use h with ⟨hb51, h⟩ | ⟨hb51, h⟩
          · refine LE.c (Wn.yes 3 32 true rfl rfl rfl (congrArg Value.bool hb51)) rfl (R.call bd16 Ls.nil rfl) (Calls.mono h ?_)
            rintro _ w53 ⟨r52, rfl, h⟩
            refine ⟨_, rfl, ?_⟩
            refine LE.p (v := (Value.bool r52)) (Wn.no rfl) rfl (R.pickT (congrArg Value.bool hb51) rfl) ?_
            refine LE.p (v := (Value.bool r52)) (Wn.no rfl) rfl (R.assign rfl) ?_
            refine LE.nil ?_
            exact ⟨_, h, rfl⟩
          · refine LE.u (Un.no 3 32 true rfl rfl rfl (congrArg Value.bool hb51)) ?_
            refine LE.p (v := (Value.bool false)) (Wn.no rfl) rfl (R.pickF (congrArg Value.bool hb51) rfl) ?_
            refine LE.p (v := (Value.bool false)) (Wn.no rfl) rfl (R.assign rfl) ?_
            refine LE.nil ?_
            exact ⟨_, h, rfl⟩
        · rintro e54 w55 ⟨x48, h, f56⟩
          subst hJ47
          refine WE.ret ?_
          exact ⟨_, (Res.tmp f56 Res.nil), _, rfl, h⟩
/-- The formula of signpost.signpostlaw15.IgpTurns. -/
def F5 (p0 : SV) (p1_0 : Int) (p1_1 : Int) (p1_2 : Bool) (p1_3 : Int) (p1_4 : Int) (p1_5 : Nat) (p2 : Int) (K : Bool → World → Prop) (w0 : World) : Prop :=
M.new (.cells #[(Value.int .u32 p1_0), (Value.int .i64 p1_1), (Value.bool p1_2), (Value.int .i64 p1_3), (Value.int .u32 p1_4), (Value.float .f64 p1_5)] 33) w0 fun b2 w1 =>
Calls Try.prog 7 #[] w1 (R7 fun r3 w4 =>
Calls Try.prog 7 #[] w4 (R7 fun r5 w6 =>
M.join (fun (x8 : Bool) (w11 : World) => 
M.ite x8 (
K false w11) (
∃ (t19 : Int) (t20 : Int) (t21 : Bool) (t22 : Int) (t23 : Int) (t24 : Nat), Cs w11 b2 0 [(Value.int .u32 t19), (Value.int .i64 t20), (Value.bool t21), (Value.int .i64 t22), (Value.int .u32 t23), (Value.float .f64 t24)] ∧
Calls Try.prog 9 #[(Value.agg #[(Value.int .u32 t19), (Value.int .i64 t20), (Value.bool t21), (Value.int .i64 t22), (Value.int .u32 t23), (Value.float .f64 t24)])] w11 (R9 fun r26 r27 r28 r29 r30 r31 w32 =>
M.stA b2 [(Value.int .u32 r26), (Value.int .i64 r27), (Value.bool r28), (Value.int .i64 r29), (Value.int .u32 r30), (Value.float .f64 r31)] w32 fun w33 =>
M.loop1 (fun (J36 : Int → World → Prop) (x35 : Int) (w37 : World) => 
M.join (fun (x51 : Bool) (w54 : World) => 
M.ite x51 (
M.idx p0 x35 9 fun a63 =>
∃ (t67 : Int) (t68 : Int) (t69 : Bool) (t70 : Int) (t71 : Int) (t72 : Nat), Cs w54 ((a63.add (x35.toNat * 9)).add 1) 0 [(Value.int .u32 t67), (Value.int .i64 t68), (Value.bool t69), (Value.int .i64 t70), (Value.int .u32 t71), (Value.float .f64 t72)] ∧
Calls Try.prog 9 #[(Value.agg #[(Value.int .u32 t67), (Value.int .i64 t68), (Value.bool t69), (Value.int .i64 t70), (Value.int .u32 t71), (Value.float .f64 t72)])] w54 (R9 fun r74 r75 r76 r77 r78 r79 w80 =>
M.new (.cells #[(Value.int .u32 (0 : Int)), (Value.int .i64 (0 : Int)), (Value.bool false), (Value.int .i64 (0 : Int)), (Value.int .u32 (0 : Int)), (Value.float .f64 (0 : Nat))] 33) w80 fun b82 w81 =>
M.stA b82 [(Value.int .u32 r74), (Value.int .i64 r75), (Value.bool r76), (Value.int .i64 r77), (Value.int .u32 r78), (Value.float .f64 r79)] w81 fun w83 =>
∃ (t85 : Int) (t86 : Int) (t87 : Bool) (t88 : Int) (t89 : Int) (t90 : Nat), Cs w83 b82 0 [(Value.int .u32 t85), (Value.int .i64 t86), (Value.bool t87), (Value.int .i64 t88), (Value.int .u32 t89), (Value.float .f64 t90)] ∧
Calls Try.prog 8 #[(Value.pointer r3), (Value.agg #[(Value.int .u32 t85), (Value.int .i64 t86), (Value.bool t87), (Value.int .i64 t88), (Value.int .u32 t89), (Value.float .f64 t90)])] w83 (R8 fun r92 r93 w94 =>
M.join (fun (w116 : World) => 
∃ (t124 : Int) (t125 : Int) (t126 : Bool) (t127 : Int) (t128 : Int) (t129 : Nat), Cs w116 b82 0 [(Value.int .u32 t124), (Value.int .i64 t125), (Value.bool t126), (Value.int .i64 t127), (Value.int .u32 t128), (Value.float .f64 t129)] ∧
Calls Try.prog 8 #[(Value.pointer r3), (Value.agg #[(Value.int .u32 t124), (Value.int .i64 t125), (Value.bool t126), (Value.int .i64 t127), (Value.int .u32 t128), (Value.float .f64 t129)])] w116 (R8 fun r131 r132 w133 =>
M.join (fun (x135 : Bool) (w138 : World) => 
M.ite x135 (
K false w138) (
J36 (IntKind.i64.wrap (x35 + (1 : Int))) w138)) fun J134 => 
M.ite r131 (
J134 true w133) (
J134 (r132 != (0 : Int)) w133))) fun J95 => 
M.ld (Value.int .u32) b82 w94 fun t96 =>
M.ld (Value.int .i64) (b82.add 1) w94 fun t98 =>
M.ld (Value.int .u32) b2 w94 fun t100 =>
M.ld (Value.int .i64) (b2.add 1) w94 fun t102 =>
M.ite (!((t96 == t100) && (t98 == t102))) (
∃ (t105 : Int) (t106 : Int) (t107 : Bool) (t108 : Int) (t109 : Int) (t110 : Nat), Cs w94 b82 0 [(Value.int .u32 t105), (Value.int .i64 t106), (Value.bool t107), (Value.int .i64 t108), (Value.int .u32 t109), (Value.float .f64 t110)] ∧
Calls Try.prog 8 #[(Value.pointer r5), (Value.agg #[(Value.int .u32 t105), (Value.int .i64 t106), (Value.bool t107), (Value.int .i64 t108), (Value.int .u32 t109), (Value.float .f64 t110)])] w94 (R8 fun r112 r113 w114 =>
J95 w114)) (
J95 w94)))) (
∃ (t147 : Int) (t148 : Int) (t149 : Bool) (t150 : Int) (t151 : Int) (t152 : Nat), Cs w54 b2 0 [(Value.int .u32 t147), (Value.int .i64 t148), (Value.bool t149), (Value.int .i64 t150), (Value.int .u32 t151), (Value.float .f64 t152)] ∧
M.new (.cells #[(Value.int .u32 (0 : Int)), (Value.int .i64 (0 : Int)), (Value.bool false), (Value.int .i64 (0 : Int)), (Value.int .u32 (0 : Int)), (Value.float .f64 (0 : Nat))] 33) w54 fun b155 w154 =>
M.stA b155 [(Value.int .u32 t147), (Value.int .i64 t148), (Value.bool t149), (Value.int .i64 t150), (Value.int .u32 t151), (Value.float .f64 t152)] w154 fun w156 =>
M.st (b155.add 5) (Value.float .f64 (13830554455654793216 : Nat)) w156 fun w158 =>
Calls Try.prog 11 #[(Value.pointer r3)] w158 (R11 fun r161 w162 =>
∃ (t163 : Int) (t164 : Int) (t165 : Bool) (t166 : Int) (t167 : Int) (t168 : Nat), Cs w162 b155 0 [(Value.int .u32 t163), (Value.int .i64 t164), (Value.bool t165), (Value.int .i64 t166), (Value.int .u32 t167), (Value.float .f64 t168)] ∧
Calls Try.prog 8 #[(Value.pointer r3), (Value.agg #[(Value.int .u32 t163), (Value.int .i64 t164), (Value.bool t165), (Value.int .i64 t166), (Value.int .u32 t167), (Value.float .f64 t168)])] w162 (R8 fun r170 r171 w172 =>
M.join (fun (x174 : Bool) (w180 : World) => 
M.ite x174 (
K false w180) (
Calls Try.prog 19 #[(Value.int .i64 (1 : Int))] w180 (R19 fun r187 w188 =>
M.st (b2.add 5) (Value.float .f64 r187) w188 fun w189 =>
∃ (t192 : Int) (t193 : Int) (t194 : Bool) (t195 : Int) (t196 : Int) (t197 : Nat), Cs w189 b2 0 [(Value.int .u32 t192), (Value.int .i64 t193), (Value.bool t194), (Value.int .i64 t195), (Value.int .u32 t196), (Value.float .f64 t197)] ∧
Calls Try.prog 8 #[(Value.pointer r3), (Value.agg #[(Value.int .u32 t192), (Value.int .i64 t193), (Value.bool t194), (Value.int .i64 t195), (Value.int .u32 t196), (Value.float .f64 t197)])] w189 (R8 fun r199 r200 w201 =>
M.ite (r200 != (0 : Int)) (
K false w201) (
Calls Try.prog 10 #[(Value.pointer r3), (Value.int .u32 (bOr .u32 (3221225984 : Int) (Int.tmod p2 (16 : Int))))] w201 (R10 fun r203 r204 r205 r206 r207 r208 r209 w210 =>
M.new (.cells #[(Value.int .u32 (0 : Int)), (Value.int .i64 (0 : Int)), (Value.bool false), (Value.int .i64 (0 : Int)), (Value.int .u32 (0 : Int)), (Value.float .f64 (0 : Nat))] 33) w210 fun b212 w211 =>
M.stA b212 [(Value.int .u32 r203), (Value.int .i64 r204), (Value.bool r205), (Value.int .i64 r206), (Value.int .u32 r207), (Value.float .f64 r208)] w211 fun w213 =>
Calls Try.prog 10 #[(Value.pointer r5), (Value.int .u32 (bOr .u32 (3221225984 : Int) (Int.tmod p2 (16 : Int))))] w213 (R10 fun r215 r216 r217 r218 r219 r220 r221 w222 =>
M.new (.cells #[(Value.int .u32 (0 : Int)), (Value.int .i64 (0 : Int)), (Value.bool false), (Value.int .i64 (0 : Int)), (Value.int .u32 (0 : Int)), (Value.float .f64 (0 : Nat))] 33) w222 fun b224 w223 =>
M.stA b224 [(Value.int .u32 r215), (Value.int .i64 r216), (Value.bool r217), (Value.int .i64 r218), (Value.int .u32 r219), (Value.float .f64 r220)] w223 fun w225 =>
M.join (fun (x228 : Bool) (w248 : World) => 
M.ite x228 (
K false w248) (
M.join (fun (x255 : Bool) (w270 : World) => 
M.ite x255 (
K false w270) (
M.ld (Value.int .u32) b2 w270 fun t276 =>
M.ld (Value.int .i64) (b2.add 1) w270 fun t278 =>
Calls Try.prog 21 #[(Value.pointer r3), (Value.agg #[(Value.int .u32 t276), (Value.int .i64 t278)])] w270 (R21 fun r280 r281 r282 r283 r284 r285 r286 w287 =>
M.new (.cells #[(Value.int .u32 (0 : Int)), (Value.int .i64 (0 : Int)), (Value.bool false), (Value.int .i64 (0 : Int)), (Value.int .u32 (0 : Int)), (Value.float .f64 (0 : Nat))] 33) w287 fun b289 w288 =>
M.stA b289 [(Value.int .u32 r280), (Value.int .i64 r281), (Value.bool r282), (Value.int .i64 r283), (Value.int .u32 r284), (Value.float .f64 r285)] w288 fun w290 =>
M.join (fun (x293 : Bool) (w303 : World) => 
K x293 w303) fun J292 => 
M.ite (!r286) (
Calls Try.prog 11 #[(Value.pointer r3)] w290 (R11 fun r295 w296 =>
Calls Try.prog 11 #[(Value.pointer r5)] w296 (R11 fun r297 w298 =>
M.ite ((r295.len : Int) == (r297.len : Int)) (
Calls Try.prog 16 #[] w298 (R16 fun r300 w301 =>
J292 r300 w301)) (
J292 false w298)))) (
J292 false w290)))) fun J254 => 
M.ld (Value.int .u32) b2 w248 fun t256 =>
M.ld (Value.int .i64) (b2.add 1) w248 fun t258 =>
Calls Try.prog 20 #[(Value.pointer r3), (Value.agg #[(Value.int .u32 t256), (Value.int .i64 t258)])] w248 (R20 fun r260 w261 =>
M.ite (!r260) (
J254 true w261) (
M.ld (Value.int .u32) b2 w261 fun t263 =>
M.ld (Value.int .i64) (b2.add 1) w261 fun t265 =>
Calls Try.prog 20 #[(Value.pointer r3), (Value.agg #[(Value.int .u32 t263), (Value.int .i64 t265)])] w261 (R20 fun r267 w268 =>
J254 r267 w268))))) fun J227 => 
M.ite (!(r209 == r221)) (
J227 true w225) (
M.ite r209 (
∃ (t231 : Int) (t232 : Int) (t233 : Bool) (t234 : Int) (t235 : Int) (t236 : Nat), Cs w225 b212 0 [(Value.int .u32 t231), (Value.int .i64 t232), (Value.bool t233), (Value.int .i64 t234), (Value.int .u32 t235), (Value.float .f64 t236)] ∧
∃ (t238 : Int) (t239 : Int) (t240 : Bool) (t241 : Int) (t242 : Int) (t243 : Nat), Cs w225 b224 0 [(Value.int .u32 t238), (Value.int .i64 t239), (Value.bool t240), (Value.int .i64 t241), (Value.int .u32 t242), (Value.float .f64 t243)] ∧
Calls Try.prog 15 #[(Value.agg #[(Value.int .u32 t231), (Value.int .i64 t232), (Value.bool t233), (Value.int .i64 t234), (Value.int .u32 t235), (Value.float .f64 t236)]), (Value.agg #[(Value.int .u32 t238), (Value.int .i64 t239), (Value.bool t240), (Value.int .i64 t241), (Value.int .u32 t242), (Value.float .f64 t243)])] w225 (R15 fun r245 w246 =>
J227 (!r245) w246)) (
J227 false w225))))))))) fun J173 => 
M.ite r170 (
J173 true w172) (
M.ite (r171 != (12 : Int)) (
J173 true w172) (
Calls Try.prog 11 #[(Value.pointer r3)] w172 (R11 fun r177 w178 =>
J173 ((r177.len : Int) != (r161.len : Int)) w178))))))) fun J50 => 
M.ite (decide (x35 < (p0.len : Int))) (
J50 (decide (x35 < (30 : Int))) w37) (
J50 false w37)) (0 : Int) w33))) fun J7 => 
M.ite (Option.isNone r3) (
J7 true w6) (
J7 (Option.isNone r5) w6)))
theorem F5_ok {w0 : World} {p0 : SV} {p1_0 : Int} {p1_1 : Int} {p1_2 : Bool} {p1_3 : Int} {p1_4 : Int} {p1_5 : Nat} {p2 : Int} {K : Bool → World → Prop} (h : F5 p0 p1_0 p1_1 p1_2 p1_3 p1_4 p1_5 p2 K w0) : Calls Try.prog 5 #[(SV.v p0), (Value.agg #[(Value.int .u32 p1_0), (Value.int .i64 p1_1), (Value.bool p1_2), (Value.int .i64 p1_3), (Value.int .u32 p1_4), (Value.float .f64 p1_5)]), (Value.int .u32 p2)] w0 (R5 K) := by
  refine calls_of_WE (args := [(SV.v p0), (Value.agg #[(Value.int .u32 p1_0), (Value.int .i64 p1_1), (Value.bool p1_2), (Value.int .i64 p1_3), (Value.int .u32 p1_4), (Value.float .f64 p1_5)]), (Value.int .u32 p2)]) (rs := [.tmp 6]) Try.func5 rfl (N := 165) rfl rfl rfl rfl ?_
  refine WE.seq ?_
  refine WE.reg ?_
  obtain ⟨b2, hpb2, w1, hww1, h⟩ := M.new_use h
  refine LE.r (v := (Value.pointer (some b2))) (Wn.no rfl) rfl (R.box (cs := #[(Value.int .u32 p1_0), (Value.int .i64 p1_1), (Value.bool p1_2), (Value.int .i64 p1_3), (Value.int .u32 p1_4), (Value.float .f64 p1_5)]) rfl rfl hpb2 hww1) ?_
  refine LE.p (v := (Value.bool false)) (Wn.no rfl) rfl (R.assign rfl) ?_
  refine LE.nil ?_
  refine WE.seq ?_
  refine WE.reg ?_
  refine LE.c (Wn.no rfl) rfl (R.call bd7 Ls.nil rfl) (Calls.mono h ?_)
  rintro _ w4 ⟨r3, rfl, h⟩
  refine ⟨_, rfl, ?_⟩
  refine LE.p (v := (Value.pointer r3)) (Wn.no rfl) rfl (R.assign rfl) ?_
  refine LE.nil ?_
  refine WE.seq ?_
  refine WE.reg ?_
  refine LE.c (Wn.no rfl) rfl (R.call bd7 Ls.nil rfl) (Calls.mono h ?_)
  rintro _ w6 ⟨r5, rfl, h⟩
  refine ⟨_, rfl, ?_⟩
  refine LE.p (v := (Value.pointer r5)) (Wn.no rfl) rfl (R.assign rfl) ?_
  refine LE.nil ?_
  refine WE.seq ?_
  refine WE.seq ?_
  obtain ⟨J7, hJ7, h⟩ := M.join_use h
  refine WE.regJ (fun e w => ∃ (x8 : Bool), J7 x8 w ∧ e 0 = (SV.v p0) ∧ e 2 = (Value.int .u32 p2) ∧ e 4 = (Value.pointer (some b2)) ∧ e 7 = (Value.pointer r3) ∧ e 8 = (Value.pointer r5) ∧ e 32 = (Value.bool x8)) ?_ ?_
  · clear hJ7
    refine LE.p (v := (Value.pointer r3)) (Wn.no rfl) rfl (R.move rfl) ?_
    refine LE.p (v := (Value.bool (Option.isNone r3))) (Wn.no rfl) rfl (R.peqNil pt24 rfl rfl) ?_
    refine LE.p (v := (Value.bool (Option.isNone r3))) (Wn.no rfl) rfl (R.move rfl) ?_
    rcases M.ite_use h with ⟨hb9, h⟩ | ⟨hb9, h⟩
    · refine LE.u (Un.no 2 29 false rfl rfl rfl (congrArg Value.bool hb9)) ?_
      refine LE.u (Un.no 2 29 false rfl rfl rfl (congrArg Value.bool hb9)) ?_
      refine LE.p (v := (Value.bool true)) (Wn.no rfl) rfl (R.pickT (congrArg Value.bool hb9) rfl) ?_
      refine LE.nil ?_
      exact ⟨_, h, rfl, rfl, rfl, rfl, rfl, rfl⟩
    · refine LE.p (v := (Value.pointer r5)) (Wn.yes 2 29 false rfl rfl rfl (congrArg Value.bool hb9)) rfl (R.move rfl) ?_
      refine LE.p (v := (Value.bool (Option.isNone r5))) (Wn.yes 2 29 false rfl rfl rfl (congrArg Value.bool hb9)) rfl (R.peqNil pt24 rfl rfl) ?_
      refine LE.p (v := (Value.bool (Option.isNone r5))) (Wn.no rfl) rfl (R.pickF (congrArg Value.bool hb9) rfl) ?_
      refine LE.nil ?_
      exact ⟨_, h, rfl, rfl, rfl, rfl, rfl, rfl⟩
  · rintro e10 w11 ⟨x8, h, f12, f13, f14, f15, f16, f17⟩
    subst hJ7
    refine WE.condT rfl (b := x8) f17 ?_ ?_
    · intro hb18
      replace h := M.ite_t h hb18
      refine WE.seq ?_
      refine WE.reg ?_
      refine LE.p (v := (Value.bool false)) (Wn.no rfl) rfl (R.assign rfl) ?_
      refine LE.nil ?_
      refine WE.ret ?_
      exact ⟨_, (Res.tmp rfl Res.nil), _, rfl, h⟩
    · intro hb18
      replace h := M.ite_f h hb18
      refine WE.skip ?_
      refine WE.seq ?_
      refine WE.reg ?_
      obtain ⟨t19, t20, t21, t22, t23, t24, h25, h⟩ := h
      refine LE.r (v := (Value.agg #[(Value.int .u32 t19), (Value.int .i64 t20), (Value.bool t21), (Value.int .i64 t22), (Value.int .u32 t23), (Value.float .f64 t24)])) (Wn.no rfl) rfl (R.ldA ag33 sz33 f14 rfl h25) ?_
      refine LE.c (Wn.no rfl) rfl (R.call bd9 (Ls.cons rfl Ls.nil) rfl) (Calls.mono h ?_)
      rintro _ w32 ⟨r26, r27, r28, r29, r30, r31, rfl, h⟩
      refine ⟨_, rfl, ?_⟩
      obtain ⟨w33, hww33, h34, h⟩ := M.stA_use h
      refine LE.s (Wn.no rfl) rfl (R.stA (a := b2) [(Value.int .u32 r26), (Value.int .i64 r27), (Value.bool r28), (Value.int .i64 r29), (Value.int .u32 r30), (Value.float .f64 r31)] sz33 f14 rfl rfl (by simp [Value.oneCell']) h34 hww33) ?_
      refine LE.nil ?_
      refine WE.seq ?_
      refine WE.seq ?_
      refine WE.reg ?_
      refine LE.p (v := (Value.int .i64 (0 : Int))) (Wn.no rfl) rfl (R.assign rfl) ?_
      refine LE.nil ?_
      refine WE.block ?_
      obtain ⟨I40, ⟨n39, h⟩, hr41⟩ := h
      refine WE.loop (fun n e w => ∃ (x35 : Int), I40 n x35 w ∧ e 0 = (SV.v p0) ∧ e 2 = (Value.int .u32 p2) ∧ e 4 = (Value.pointer (some b2)) ∧ e 7 = (Value.pointer r3) ∧ e 8 = (Value.pointer r5) ∧ e 9 = (Value.int .i64 x35)) n39 ⟨_, h, f12, f13, f14, f15, f16, rfl⟩ ?_
      clear h
      rintro n39 e38 w37 ⟨x35, h, f44, f45, f46, f47, f48, f49⟩
      replace h := hr41 n39 x35 w37 h
      refine WE.seq ?_
      refine WE.seq ?_
      obtain ⟨J50, hJ50, h⟩ := M.join_use h
      refine WE.regJ (fun e w => ∃ (x51 : Bool), J50 x51 w ∧ e 0 = (SV.v p0) ∧ e 2 = (Value.int .u32 p2) ∧ e 4 = (Value.pointer (some b2)) ∧ e 7 = (Value.pointer r3) ∧ e 8 = (Value.pointer r5) ∧ e 9 = (Value.int .i64 x35) ∧ e 42 = (Value.bool x51)) ?_ ?_
      · clear hJ50
        refine LE.p (v := (Value.int .i64 x35)) (Wn.no rfl) rfl (R.move f49) ?_
        refine LE.p (v := (SV.v p0)) (Wn.no rfl) rfl (R.move f44) ?_
        refine LE.p (v := (Value.int .i64 (p0.len : Int))) (Wn.no rfl) rfl (R.len sl22 rfl) ?_
        refine LE.p (v := (Value.bool (decide (x35 < (p0.len : Int))))) (Wn.no rfl) rfl (R.lss rfl rfl) ?_
        refine LE.p (v := (Value.bool (decide (x35 < (p0.len : Int))))) (Wn.no rfl) rfl (R.move rfl) ?_
        rcases M.ite_use h with ⟨hb52, h⟩ | ⟨hb52, h⟩
        · refine LE.p (v := (Value.int .i64 x35)) (Wn.yes 4 39 true rfl rfl rfl (congrArg Value.bool hb52)) rfl (R.move f49) ?_
          refine LE.p (v := (Value.bool (decide (x35 < (30 : Int))))) (Wn.yes 4 39 true rfl rfl rfl (congrArg Value.bool hb52)) rfl (R.lss rfl rfl) ?_
          refine LE.p (v := (Value.bool (decide (x35 < (30 : Int))))) (Wn.no rfl) rfl (R.pickT (congrArg Value.bool hb52) rfl) ?_
          refine LE.nil ?_
          exact ⟨_, h, f44, f45, f46, f47, f48, f49, rfl⟩
        · refine LE.u (Un.no 4 39 true rfl rfl rfl (congrArg Value.bool hb52)) ?_
          refine LE.u (Un.no 4 39 true rfl rfl rfl (congrArg Value.bool hb52)) ?_
          refine LE.p (v := (Value.bool false)) (Wn.no rfl) rfl (R.pickF (congrArg Value.bool hb52) rfl) ?_
          refine LE.nil ?_
          exact ⟨_, h, f44, f45, f46, f47, f48, f49, rfl⟩
      · rintro e53 w54 ⟨x51, h, f55, f56, f57, f58, f59, f60, f61⟩
        subst hJ50
        refine WE.condT rfl (b := x51) f61 ?_ ?_
        · intro hb62
          replace h := M.ite_t h hb62
          refine WE.skip ?_
          refine WE.seq ?_
          refine WE.block ?_
          refine WE.seq ?_
          refine WE.reg ?_
          refine LE.p (v := (SV.v p0)) (Wn.no rfl) rfl (R.move f55) ?_
          refine LE.p (v := (Value.int .i64 x35)) (Wn.no rfl) rfl (R.move f60) ?_
          obtain ⟨a63, h64, h65, h66, h⟩ := h
          refine LE.p (v := (Value.pointer (some (a63.add (x35.toNat * 9))))) (Wn.no rfl) rfl (R.idx (s := p0) sl22 rfl rfl h64 h65 h66) ?_
          refine LE.p (v := (Value.pointer (some ((a63.add (x35.toNat * 9)).add 1)))) (Wn.no rfl) rfl (R.fld (off := 1) fa36_1 rfl) ?_
          obtain ⟨t67, t68, t69, t70, t71, t72, h73, h⟩ := h
          refine LE.r (v := (Value.agg #[(Value.int .u32 t67), (Value.int .i64 t68), (Value.bool t69), (Value.int .i64 t70), (Value.int .u32 t71), (Value.float .f64 t72)])) (Wn.no rfl) rfl (R.ldA ag33 sz33 rfl rfl h73) ?_
          refine LE.c (Wn.no rfl) rfl (R.call bd9 (Ls.cons rfl Ls.nil) rfl) (Calls.mono h ?_)
          rintro _ w80 ⟨r74, r75, r76, r77, r78, r79, rfl, h⟩
          refine ⟨_, rfl, ?_⟩
          obtain ⟨b82, hpb82, w81, hww81, h⟩ := M.new_use h
          refine LE.r (v := (Value.pointer (some b82))) (Wn.no rfl) rfl (R.alloc (cs := #[(Value.int .u32 (0 : Int)), (Value.int .i64 (0 : Int)), (Value.bool false), (Value.int .i64 (0 : Int)), (Value.int .u32 (0 : Int)), (Value.float .f64 (0 : Nat))]) ze33 rfl hpb82 hww81) ?_
          obtain ⟨w83, hww83, h84, h⟩ := M.stA_use h
          refine LE.s (Wn.no rfl) rfl (R.stA (a := b82) [(Value.int .u32 r74), (Value.int .i64 r75), (Value.bool r76), (Value.int .i64 r77), (Value.int .u32 r78), (Value.float .f64 r79)] sz33 rfl rfl rfl (by simp [Value.oneCell']) h84 hww83) ?_
          refine LE.nil ?_
          refine WE.seq ?_
          refine WE.reg ?_
          refine LE.p (v := (Value.pointer r3)) (Wn.no rfl) rfl (R.move f58) ?_
          obtain ⟨t85, t86, t87, t88, t89, t90, h91, h⟩ := h
          refine LE.r (v := (Value.agg #[(Value.int .u32 t85), (Value.int .i64 t86), (Value.bool t87), (Value.int .i64 t88), (Value.int .u32 t89), (Value.float .f64 t90)])) (Wn.no rfl) rfl (R.ldA ag33 sz33 rfl rfl h91) ?_
          refine LE.c (Wn.no rfl) rfl (R.call bd8 (Ls.cons rfl (Ls.cons rfl Ls.nil)) rfl) (Calls.mono h ?_)
          rintro _ w94 ⟨r92, r93, rfl, h⟩
          refine ⟨_, rfl, ?_⟩
          refine LE.nil ?_
          obtain ⟨J95, hJ95, h⟩ := M.join_use h
          refine WE.join (fun e w => J95 w ∧ e 0 = (SV.v p0) ∧ e 2 = (Value.int .u32 p2) ∧ e 4 = (Value.pointer (some b2)) ∧ e 7 = (Value.pointer r3) ∧ e 8 = (Value.pointer r5) ∧ e 9 = (Value.int .i64 x35) ∧ e 10 = (Value.pointer (some b82))) ?_ ?_
          · clear hJ95
            refine WE.seq ?_
            refine WE.reg ?_
            refine LE.p (v := (Value.pointer (some b82))) (Wn.no rfl) rfl (R.fld (off := 0) fa33_0 rfl) ?_
            obtain ⟨t96, h97, h⟩ := h
            obtain ⟨t98, h99, h⟩ := h
            refine LE.r (v := (Value.agg #[(Value.int .u32 t96), (Value.int .i64 t98)])) (Wn.no rfl) rfl (R.ldA ag30 sz30 rfl rfl (Cs.cons h97 (Cs.cons h99 Cs.nil))) ?_
            refine LE.p (v := (Value.pointer (some b2))) (Wn.no rfl) rfl (R.fld (off := 0) fa33_0 f57) ?_
            obtain ⟨t100, h101, h⟩ := h
            obtain ⟨t102, h103, h⟩ := h
            refine LE.r (v := (Value.agg #[(Value.int .u32 t100), (Value.int .i64 t102)])) (Wn.no rfl) rfl (R.ldA ag30 sz30 rfl rfl (Cs.cons h101 (Cs.cons h103 Cs.nil))) ?_
            refine LE.p (v := (Value.bool (!((t96 == t100) && (t98 == t102))))) (Wn.no rfl) rfl (R.neS (fun w => eq30 t96 t100 t98 t102 w) sg30 rfl rfl) ?_
            refine LE.nil ?_
            refine WE.condT rfl (b := (!((t96 == t100) && (t98 == t102)))) rfl ?_ ?_
            · intro hb104
              replace h := M.ite_t h hb104
              refine WE.reg ?_
              refine LE.p (v := (Value.pointer r5)) (Wn.no rfl) rfl (R.move f59) ?_
              obtain ⟨t105, t106, t107, t108, t109, t110, h111, h⟩ := h
              refine LE.r (v := (Value.agg #[(Value.int .u32 t105), (Value.int .i64 t106), (Value.bool t107), (Value.int .i64 t108), (Value.int .u32 t109), (Value.float .f64 t110)])) (Wn.no rfl) rfl (R.ldA ag33 sz33 rfl rfl h111) ?_
              refine LE.c (Wn.no rfl) rfl (R.call bd8 (Ls.cons rfl (Ls.cons rfl Ls.nil)) rfl) (Calls.mono h ?_)
              rintro _ w114 ⟨r112, r113, rfl, h⟩
              refine ⟨_, rfl, ?_⟩
              refine LE.nil ?_
              exact ⟨h, f55, f56, f57, f58, f59, f60, rfl⟩
            · intro hb104
              replace h := M.ite_f h hb104
              refine WE.skip ?_
              exact ⟨h, f55, f56, f57, f58, f59, f60, rfl⟩
          · rintro e115 w116 ⟨h, f117, f118, f119, f120, f121, f122, f123⟩
            subst hJ95
            refine WE.seq ?_
            refine WE.reg ?_
            refine LE.p (v := (Value.pointer r3)) (Wn.no rfl) rfl (R.move f120) ?_
            obtain ⟨t124, t125, t126, t127, t128, t129, h130, h⟩ := h
            refine LE.r (v := (Value.agg #[(Value.int .u32 t124), (Value.int .i64 t125), (Value.bool t126), (Value.int .i64 t127), (Value.int .u32 t128), (Value.float .f64 t129)])) (Wn.no rfl) rfl (R.ldA ag33 sz33 f123 rfl h130) ?_
            refine LE.c (Wn.no rfl) rfl (R.call bd8 (Ls.cons rfl (Ls.cons rfl Ls.nil)) rfl) (Calls.mono h ?_)
            rintro _ w133 ⟨r131, r132, rfl, h⟩
            refine ⟨_, rfl, ?_⟩
            refine LE.p (v := (Value.tuple #[(Value.bool r131), (Value.int .i64 r132)])) (Wn.no rfl) rfl (R.move rfl) ?_
            refine LE.p (v := (Value.bool r131)) (Wn.no rfl) rfl (R.ext rfl rfl) ?_
            refine LE.p (v := (Value.int .i64 r132)) (Wn.no rfl) rfl (R.ext rfl rfl) ?_
            refine LE.p (v := (Value.bool r131)) (Wn.no rfl) rfl (R.assign rfl) ?_
            refine LE.p (v := (Value.int .i64 r132)) (Wn.no rfl) rfl (R.assign rfl) ?_
            refine LE.nil ?_
            refine WE.seq ?_
            obtain ⟨J134, hJ134, h⟩ := M.join_use h
            refine WE.regJ (fun e w => ∃ (x135 : Bool), J134 x135 w ∧ e 0 = (SV.v p0) ∧ e 2 = (Value.int .u32 p2) ∧ e 4 = (Value.pointer (some b2)) ∧ e 7 = (Value.pointer r3) ∧ e 8 = (Value.pointer r5) ∧ e 9 = (Value.int .i64 x35) ∧ e 72 = (Value.bool x135)) ?_ ?_
            · clear hJ134
              refine LE.p (v := (Value.bool r131)) (Wn.no rfl) rfl (R.move rfl) ?_
              refine LE.p (v := (Value.bool r131)) (Wn.no rfl) rfl (R.move rfl) ?_
              rcases M.ite_use h with ⟨hb136, h⟩ | ⟨hb136, h⟩
              · refine LE.u (Un.no 1 69 false rfl rfl rfl (congrArg Value.bool hb136)) ?_
                refine LE.u (Un.no 1 69 false rfl rfl rfl (congrArg Value.bool hb136)) ?_
                refine LE.p (v := (Value.bool true)) (Wn.no rfl) rfl (R.pickT (congrArg Value.bool hb136) rfl) ?_
                refine LE.nil ?_
                exact ⟨_, h, f117, f118, f119, f120, f121, f122, rfl⟩
              · refine LE.p (v := (Value.int .i64 r132)) (Wn.yes 1 69 false rfl rfl rfl (congrArg Value.bool hb136)) rfl (R.move rfl) ?_
                refine LE.p (v := (Value.bool (r132 != (0 : Int)))) (Wn.yes 1 69 false rfl rfl rfl (congrArg Value.bool hb136)) rfl (R.neq rfl rfl) ?_
                refine LE.p (v := (Value.bool (r132 != (0 : Int)))) (Wn.no rfl) rfl (R.pickF (congrArg Value.bool hb136) rfl) ?_
                refine LE.nil ?_
                exact ⟨_, h, f117, f118, f119, f120, f121, f122, rfl⟩
            · rintro e137 w138 ⟨x135, h, f139, f140, f141, f142, f143, f144, f145⟩
              subst hJ134
              refine WE.condT rfl (b := x135) f145 ?_ ?_
              · intro hb146
                replace h := M.ite_t h hb146
                refine WE.seq ?_
                refine WE.reg ?_
                refine LE.p (v := (Value.bool false)) (Wn.no rfl) rfl (R.assign rfl) ?_
                refine LE.nil ?_
                refine WE.ret ?_
                exact ⟨_, (Res.tmp rfl Res.nil), _, rfl, h⟩
              · intro hb146
                replace h := M.ite_f h hb146
                refine WE.skip ?_
                refine WE.reg ?_
                refine LE.p (v := (Value.int .i64 x35)) (Wn.no rfl) rfl (R.move f144) ?_
                refine LE.p (v := (Value.int .i64 (IntKind.i64.wrap (x35 + (1 : Int))))) (Wn.no rfl) rfl (R.add rfl rfl) ?_
                refine LE.p (v := (Value.int .i64 (IntKind.i64.wrap (x35 + (1 : Int))))) (Wn.no rfl) rfl (R.assign rfl) ?_
                refine LE.nil ?_
                obtain ⟨m42, hm43, h⟩ := h
                exact ⟨m42, hm43, _, h, f139, f140, f141, f142, f143, rfl⟩
        · intro hb62
          replace h := M.ite_f h hb62
          refine WE.exit ?_
          refine WE.seq ?_
          refine WE.reg ?_
          obtain ⟨t147, t148, t149, t150, t151, t152, h153, h⟩ := h
          refine LE.r (v := (Value.agg #[(Value.int .u32 t147), (Value.int .i64 t148), (Value.bool t149), (Value.int .i64 t150), (Value.int .u32 t151), (Value.float .f64 t152)])) (Wn.no rfl) rfl (R.ldA ag33 sz33 f57 rfl h153) ?_
          obtain ⟨b155, hpb155, w154, hww154, h⟩ := M.new_use h
          refine LE.r (v := (Value.pointer (some b155))) (Wn.no rfl) rfl (R.alloc (cs := #[(Value.int .u32 (0 : Int)), (Value.int .i64 (0 : Int)), (Value.bool false), (Value.int .i64 (0 : Int)), (Value.int .u32 (0 : Int)), (Value.float .f64 (0 : Nat))]) ze33 rfl hpb155 hww154) ?_
          obtain ⟨w156, hww156, h157, h⟩ := M.stA_use h
          refine LE.s (Wn.no rfl) rfl (R.stA (a := b155) [(Value.int .u32 t147), (Value.int .i64 t148), (Value.bool t149), (Value.int .i64 t150), (Value.int .u32 t151), (Value.float .f64 t152)] sz33 rfl rfl rfl (by simp [Value.oneCell']) h157 hww156) ?_
          refine LE.nil ?_
          refine WE.seq ?_
          refine WE.reg ?_
          refine LE.p (v := (Value.pointer (some (b155.add 5)))) (Wn.no rfl) rfl (R.fld (off := 5) fa33_4 rfl) ?_
          obtain ⟨w158, hww158, h159, h160, h⟩ := M.st_use h
          refine LE.s (Wn.no rfl) rfl (R.st (a := (b155.add 5)) (v := (Value.float .f64 (13830554455654793216 : Nat))) sz31 rfl rfl rfl rfl h159 h160 hww158) ?_
          refine LE.nil ?_
          refine WE.seq ?_
          refine WE.reg ?_
          refine LE.p (v := (Value.pointer r3)) (Wn.no rfl) rfl (R.move f58) ?_
          refine LE.c (Wn.no rfl) rfl (R.call bd11 (Ls.cons rfl Ls.nil) rfl) (Calls.mono h ?_)
          rintro _ w162 ⟨r161, rfl, h⟩
          refine ⟨_, rfl, ?_⟩
          refine LE.p (v := (Value.int .i64 (r161.len : Int))) (Wn.no rfl) rfl (R.len sl39 rfl) ?_
          refine LE.p (v := (Value.int .i64 (r161.len : Int))) (Wn.no rfl) rfl (R.assign rfl) ?_
          refine LE.nil ?_
          refine WE.seq ?_
          refine WE.seq ?_
          refine WE.reg ?_
          refine LE.p (v := (Value.pointer r3)) (Wn.no rfl) rfl (R.move f58) ?_
          obtain ⟨t163, t164, t165, t166, t167, t168, h169, h⟩ := h
          refine LE.r (v := (Value.agg #[(Value.int .u32 t163), (Value.int .i64 t164), (Value.bool t165), (Value.int .i64 t166), (Value.int .u32 t167), (Value.float .f64 t168)])) (Wn.no rfl) rfl (R.ldA ag33 sz33 rfl rfl h169) ?_
          refine LE.c (Wn.no rfl) rfl (R.call bd8 (Ls.cons rfl (Ls.cons rfl Ls.nil)) rfl) (Calls.mono h ?_)
          rintro _ w172 ⟨r170, r171, rfl, h⟩
          refine ⟨_, rfl, ?_⟩
          refine LE.p (v := (Value.tuple #[(Value.bool r170), (Value.int .i64 r171)])) (Wn.no rfl) rfl (R.move rfl) ?_
          refine LE.p (v := (Value.bool r170)) (Wn.no rfl) rfl (R.ext rfl rfl) ?_
          refine LE.p (v := (Value.int .i64 r171)) (Wn.no rfl) rfl (R.ext rfl rfl) ?_
          refine LE.p (v := (Value.bool r170)) (Wn.no rfl) rfl (R.assign rfl) ?_
          refine LE.p (v := (Value.int .i64 r171)) (Wn.no rfl) rfl (R.assign rfl) ?_
          refine LE.nil ?_
          refine WE.seq ?_
          obtain ⟨J173, hJ173, h⟩ := M.join_use h
          refine WE.regJ (fun e w => ∃ (x174 : Bool), J173 x174 w ∧ e 2 = (Value.int .u32 p2) ∧ e 4 = (Value.pointer (some b2)) ∧ e 7 = (Value.pointer r3) ∧ e 8 = (Value.pointer r5) ∧ e 95 = (Value.bool x174)) ?_ ?_
          · clear hJ173
            refine LE.p (v := (Value.bool r170)) (Wn.no rfl) rfl (R.move rfl) ?_
            refine LE.p (v := (Value.bool r170)) (Wn.no rfl) rfl (R.move rfl) ?_
            rcases M.ite_use h with ⟨hb175, h⟩ | ⟨hb175, h⟩
            · refine LE.u (Un.no 1 85 false rfl rfl rfl (congrArg Value.bool hb175)) ?_
              refine LE.u (Un.no 1 85 false rfl rfl rfl (congrArg Value.bool hb175)) ?_
              refine LE.p (v := (Value.bool true)) (Wn.no rfl) rfl (R.pickT (congrArg Value.bool hb175) rfl) ?_
              refine LE.p (v := (Value.bool true)) (Wn.no rfl) rfl (R.move rfl) ?_
              refine LE.u (Un.no 5 89 false rfl rfl rfl rfl) ?_
              refine LE.u (Un.no 5 89 false rfl rfl rfl rfl) ?_
              refine LE.u (Un.no 5 89 false rfl rfl rfl rfl) ?_
              refine LE.u (Un.no 5 89 false rfl rfl rfl rfl) ?_
              refine LE.u (Un.no 5 89 false rfl rfl rfl rfl) ?_
              refine LE.p (v := (Value.bool true)) (Wn.no rfl) rfl (R.pickT rfl rfl) ?_
              refine LE.nil ?_
              exact ⟨_, h, f56, f57, f58, f59, rfl⟩
            · refine LE.p (v := (Value.int .i64 r171)) (Wn.yes 1 85 false rfl rfl rfl (congrArg Value.bool hb175)) rfl (R.move rfl) ?_
              refine LE.p (v := (Value.bool (r171 != (12 : Int)))) (Wn.yes 1 85 false rfl rfl rfl (congrArg Value.bool hb175)) rfl (R.neq rfl rfl) ?_
              refine LE.p (v := (Value.bool (r171 != (12 : Int)))) (Wn.no rfl) rfl (R.pickF (congrArg Value.bool hb175) rfl) ?_
              refine LE.p (v := (Value.bool (r171 != (12 : Int)))) (Wn.no rfl) rfl (R.move rfl) ?_
              rcases M.ite_use h with ⟨hb176, h⟩ | ⟨hb176, h⟩
              · refine LE.u (Un.no 5 89 false rfl rfl rfl (congrArg Value.bool hb176)) ?_
                refine LE.u (Un.no 5 89 false rfl rfl rfl (congrArg Value.bool hb176)) ?_
                refine LE.u (Un.no 5 89 false rfl rfl rfl (congrArg Value.bool hb176)) ?_
                refine LE.u (Un.no 5 89 false rfl rfl rfl (congrArg Value.bool hb176)) ?_
                refine LE.u (Un.no 5 89 false rfl rfl rfl (congrArg Value.bool hb176)) ?_
                refine LE.p (v := (Value.bool true)) (Wn.no rfl) rfl (R.pickT (congrArg Value.bool hb176) rfl) ?_
                refine LE.nil ?_
                exact ⟨_, h, f56, f57, f58, f59, rfl⟩
              · refine LE.p (v := (Value.pointer r3)) (Wn.yes 5 89 false rfl rfl rfl (congrArg Value.bool hb176)) rfl (R.move f58) ?_
                refine LE.c (Wn.yes 5 89 false rfl rfl rfl (congrArg Value.bool hb176)) rfl (R.call bd11 (Ls.cons rfl Ls.nil) rfl) (Calls.mono h ?_)
                rintro _ w178 ⟨r177, rfl, h⟩
                refine ⟨_, rfl, ?_⟩
                refine LE.p (v := (Value.int .i64 (r177.len : Int))) (Wn.yes 5 89 false rfl rfl rfl (congrArg Value.bool hb176)) rfl (R.len sl39 rfl) ?_
                refine LE.p (v := (Value.int .i64 (r161.len : Int))) (Wn.yes 5 89 false rfl rfl rfl (congrArg Value.bool hb176)) rfl (R.move rfl) ?_
                refine LE.p (v := (Value.bool ((r177.len : Int) != (r161.len : Int)))) (Wn.yes 5 89 false rfl rfl rfl (congrArg Value.bool hb176)) rfl (R.neq rfl rfl) ?_
                refine LE.p (v := (Value.bool ((r177.len : Int) != (r161.len : Int)))) (Wn.no rfl) rfl (R.pickF (congrArg Value.bool hb176) rfl) ?_
                refine LE.nil ?_
                exact ⟨_, h, f56, f57, f58, f59, rfl⟩
          · rintro e179 w180 ⟨x174, h, f181, f182, f183, f184, f185⟩
            subst hJ173
            refine WE.condT rfl (b := x174) f185 ?_ ?_
            · intro hb186
              replace h := M.ite_t h hb186
              refine WE.seq ?_
              refine WE.reg ?_
              refine LE.p (v := (Value.bool false)) (Wn.no rfl) rfl (R.assign rfl) ?_
              refine LE.nil ?_
              refine WE.ret ?_
              exact ⟨_, (Res.tmp rfl Res.nil), _, rfl, h⟩
            · intro hb186
              replace h := M.ite_f h hb186
              refine WE.skip ?_
              refine WE.seq ?_
              refine WE.reg ?_
              refine LE.c (Wn.no rfl) rfl (R.call bd19 (Ls.cons rfl Ls.nil) rfl) (Calls.mono h ?_)
              rintro _ w188 ⟨r187, rfl, h⟩
              refine ⟨_, rfl, ?_⟩
              refine LE.p (v := (Value.pointer (some (b2.add 5)))) (Wn.no rfl) rfl (R.fld (off := 5) fa33_4 f182) ?_
              obtain ⟨w189, hww189, h190, h191, h⟩ := M.st_use h
              refine LE.s (Wn.no rfl) rfl (R.st (a := (b2.add 5)) (v := (Value.float .f64 r187)) sz31 rfl rfl rfl rfl h190 h191 hww189) ?_
              refine LE.nil ?_
              refine WE.seq ?_
              refine WE.seq ?_
              refine WE.reg ?_
              refine LE.p (v := (Value.pointer r3)) (Wn.no rfl) rfl (R.move f183) ?_
              obtain ⟨t192, t193, t194, t195, t196, t197, h198, h⟩ := h
              refine LE.r (v := (Value.agg #[(Value.int .u32 t192), (Value.int .i64 t193), (Value.bool t194), (Value.int .i64 t195), (Value.int .u32 t196), (Value.float .f64 t197)])) (Wn.no rfl) rfl (R.ldA ag33 sz33 f182 rfl h198) ?_
              refine LE.c (Wn.no rfl) rfl (R.call bd8 (Ls.cons rfl (Ls.cons rfl Ls.nil)) rfl) (Calls.mono h ?_)
              rintro _ w201 ⟨r199, r200, rfl, h⟩
              refine ⟨_, rfl, ?_⟩
              refine LE.p (v := (Value.tuple #[(Value.bool r199), (Value.int .i64 r200)])) (Wn.no rfl) rfl (R.move rfl) ?_
              refine LE.p (v := (Value.bool r199)) (Wn.no rfl) rfl (R.ext rfl rfl) ?_
              refine LE.p (v := (Value.int .i64 r200)) (Wn.no rfl) rfl (R.ext rfl rfl) ?_
              refine LE.p (v := (Value.bool r199)) (Wn.no rfl) rfl (R.assign rfl) ?_
              refine LE.p (v := (Value.int .i64 r200)) (Wn.no rfl) rfl (R.assign rfl) ?_
              refine LE.nil ?_
              refine WE.seq ?_
              refine WE.reg ?_
              refine LE.p (v := (Value.int .i64 r200)) (Wn.no rfl) rfl (R.move rfl) ?_
              refine LE.p (v := (Value.bool (r200 != (0 : Int)))) (Wn.no rfl) rfl (R.neq rfl rfl) ?_
              refine LE.nil ?_
              refine WE.condT rfl (b := (r200 != (0 : Int))) rfl ?_ ?_
              · intro hb202
                replace h := M.ite_t h hb202
                refine WE.seq ?_
                refine WE.reg ?_
                refine LE.p (v := (Value.bool false)) (Wn.no rfl) rfl (R.assign rfl) ?_
                refine LE.nil ?_
                refine WE.ret ?_
                exact ⟨_, (Res.tmp rfl Res.nil), _, rfl, h⟩
              · intro hb202
                replace h := M.ite_f h hb202
                refine WE.skip ?_
                refine WE.seq ?_
                refine WE.reg ?_
                refine LE.p (v := (Value.int .u32 p2)) (Wn.no rfl) rfl (R.move f181) ?_
                refine LE.p (v := (Value.int .u32 (Int.tmod p2 (16 : Int)))) (Wn.no rfl) rfl (R.rem rfl rfl (by decide)) ?_
                refine LE.p (v := (Value.int .u32 (bOr .u32 (3221225984 : Int) (Int.tmod p2 (16 : Int))))) (Wn.no rfl) rfl (R.or rfl rfl) ?_
                refine LE.p (v := (Value.int .u32 (bOr .u32 (3221225984 : Int) (Int.tmod p2 (16 : Int))))) (Wn.no rfl) rfl (R.assign rfl) ?_
                refine LE.nil ?_
                refine WE.seq ?_
                refine WE.reg ?_
                refine LE.p (v := (Value.pointer r3)) (Wn.no rfl) rfl (R.move f183) ?_
                refine LE.p (v := (Value.int .u32 (bOr .u32 (3221225984 : Int) (Int.tmod p2 (16 : Int))))) (Wn.no rfl) rfl (R.move rfl) ?_
                refine LE.c (Wn.no rfl) rfl (R.call bd10 (Ls.cons rfl (Ls.cons rfl Ls.nil)) rfl) (Calls.mono h ?_)
                rintro _ w210 ⟨r203, r204, r205, r206, r207, r208, r209, rfl, h⟩
                refine ⟨_, rfl, ?_⟩
                refine LE.p (v := (Value.tuple #[(Value.agg #[(Value.int .u32 r203), (Value.int .i64 r204), (Value.bool r205), (Value.int .i64 r206), (Value.int .u32 r207), (Value.float .f64 r208)]), (Value.bool r209)])) (Wn.no rfl) rfl (R.move rfl) ?_
                refine LE.p (v := (Value.agg #[(Value.int .u32 r203), (Value.int .i64 r204), (Value.bool r205), (Value.int .i64 r206), (Value.int .u32 r207), (Value.float .f64 r208)])) (Wn.no rfl) rfl (R.ext rfl rfl) ?_
                refine LE.p (v := (Value.bool r209)) (Wn.no rfl) rfl (R.ext rfl rfl) ?_
                obtain ⟨b212, hpb212, w211, hww211, h⟩ := M.new_use h
                refine LE.r (v := (Value.pointer (some b212))) (Wn.no rfl) rfl (R.alloc (cs := #[(Value.int .u32 (0 : Int)), (Value.int .i64 (0 : Int)), (Value.bool false), (Value.int .i64 (0 : Int)), (Value.int .u32 (0 : Int)), (Value.float .f64 (0 : Nat))]) ze33 rfl hpb212 hww211) ?_
                obtain ⟨w213, hww213, h214, h⟩ := M.stA_use h
                refine LE.s (Wn.no rfl) rfl (R.stA (a := b212) [(Value.int .u32 r203), (Value.int .i64 r204), (Value.bool r205), (Value.int .i64 r206), (Value.int .u32 r207), (Value.float .f64 r208)] sz33 rfl rfl rfl (by simp [Value.oneCell']) h214 hww213) ?_
                refine LE.p (v := (Value.bool r209)) (Wn.no rfl) rfl (R.assign rfl) ?_
                refine LE.nil ?_
                refine WE.seq ?_
                refine WE.reg ?_
                refine LE.p (v := (Value.pointer r5)) (Wn.no rfl) rfl (R.move f184) ?_
                refine LE.p (v := (Value.int .u32 (bOr .u32 (3221225984 : Int) (Int.tmod p2 (16 : Int))))) (Wn.no rfl) rfl (R.move rfl) ?_
                refine LE.c (Wn.no rfl) rfl (R.call bd10 (Ls.cons rfl (Ls.cons rfl Ls.nil)) rfl) (Calls.mono h ?_)
                rintro _ w222 ⟨r215, r216, r217, r218, r219, r220, r221, rfl, h⟩
                refine ⟨_, rfl, ?_⟩
                refine LE.p (v := (Value.tuple #[(Value.agg #[(Value.int .u32 r215), (Value.int .i64 r216), (Value.bool r217), (Value.int .i64 r218), (Value.int .u32 r219), (Value.float .f64 r220)]), (Value.bool r221)])) (Wn.no rfl) rfl (R.move rfl) ?_
                refine LE.p (v := (Value.agg #[(Value.int .u32 r215), (Value.int .i64 r216), (Value.bool r217), (Value.int .i64 r218), (Value.int .u32 r219), (Value.float .f64 r220)])) (Wn.no rfl) rfl (R.ext rfl rfl) ?_
                refine LE.p (v := (Value.bool r221)) (Wn.no rfl) rfl (R.ext rfl rfl) ?_
                obtain ⟨b224, hpb224, w223, hww223, h⟩ := M.new_use h
                refine LE.r (v := (Value.pointer (some b224))) (Wn.no rfl) rfl (R.alloc (cs := #[(Value.int .u32 (0 : Int)), (Value.int .i64 (0 : Int)), (Value.bool false), (Value.int .i64 (0 : Int)), (Value.int .u32 (0 : Int)), (Value.float .f64 (0 : Nat))]) ze33 rfl hpb224 hww223) ?_
                obtain ⟨w225, hww225, h226, h⟩ := M.stA_use h
                refine LE.s (Wn.no rfl) rfl (R.stA (a := b224) [(Value.int .u32 r215), (Value.int .i64 r216), (Value.bool r217), (Value.int .i64 r218), (Value.int .u32 r219), (Value.float .f64 r220)] sz33 rfl rfl rfl (by simp [Value.oneCell']) h226 hww225) ?_
                refine LE.p (v := (Value.bool r221)) (Wn.no rfl) rfl (R.assign rfl) ?_
                refine LE.nil ?_
                refine WE.seq ?_
                refine WE.seq ?_
                obtain ⟨J227, hJ227, h⟩ := M.join_use h
                refine WE.regJ (fun e w => ∃ (x228 : Bool), J227 x228 w ∧ e 4 = (Value.pointer (some b2)) ∧ e 7 = (Value.pointer r3) ∧ e 8 = (Value.pointer r5) ∧ e 132 = (Value.bool x228)) ?_ ?_
                · clear hJ227
                  refine LE.p (v := (Value.bool r209)) (Wn.no rfl) rfl (R.move rfl) ?_
                  refine LE.p (v := (Value.bool r221)) (Wn.no rfl) rfl (R.move rfl) ?_
                  refine LE.p (v := (Value.bool (!(r209 == r221)))) (Wn.no rfl) rfl (R.bneq bo4 rfl rfl) ?_
                  refine LE.p (v := (Value.bool (!(r209 == r221)))) (Wn.no rfl) rfl (R.move rfl) ?_
                  rcases M.ite_use h with ⟨hb229, h⟩ | ⟨hb229, h⟩
                  · refine LE.u (Un.no 3 124 false rfl rfl rfl (congrArg Value.bool hb229)) ?_
                    refine LE.u (Un.no 3 124 false rfl rfl rfl (congrArg Value.bool hb229)) ?_
                    refine LE.u (Un.un 5 126 true rfl rfl rfl rfl) ?_
                    refine LE.u (Un.un 5 126 true rfl rfl rfl rfl) ?_
                    refine LE.u (Un.un 5 126 true rfl rfl rfl rfl) ?_
                    refine LE.u (Un.un 5 126 true rfl rfl rfl rfl) ?_
                    refine LE.u (Un.no 3 124 false rfl rfl rfl (congrArg Value.bool hb229)) ?_
                    refine LE.p (v := (Value.bool true)) (Wn.no rfl) rfl (R.pickT (congrArg Value.bool hb229) rfl) ?_
                    refine LE.nil ?_
                    exact ⟨_, h, f182, f183, f184, rfl⟩
                  · refine LE.p (v := (Value.bool r209)) (Wn.yes 3 124 false rfl rfl rfl (congrArg Value.bool hb229)) rfl (R.move rfl) ?_
                    refine LE.p (v := (Value.bool r209)) (Wn.yes 3 124 false rfl rfl rfl (congrArg Value.bool hb229)) rfl (R.move rfl) ?_
                    rcases M.ite_use h with ⟨hb230, h⟩ | ⟨hb230, h⟩
                    · obtain ⟨t231, t232, t233, t234, t235, t236, h237, h⟩ := h
                      refine LE.r (v := (Value.agg #[(Value.int .u32 t231), (Value.int .i64 t232), (Value.bool t233), (Value.int .i64 t234), (Value.int .u32 t235), (Value.float .f64 t236)])) (Wn.yes 5 126 true rfl rfl rfl (congrArg Value.bool hb230)) rfl (R.ldA ag33 sz33 rfl rfl h237) ?_
                      obtain ⟨t238, t239, t240, t241, t242, t243, h244, h⟩ := h
                      refine LE.r (v := (Value.agg #[(Value.int .u32 t238), (Value.int .i64 t239), (Value.bool t240), (Value.int .i64 t241), (Value.int .u32 t242), (Value.float .f64 t243)])) (Wn.yes 5 126 true rfl rfl rfl (congrArg Value.bool hb230)) rfl (R.ldA ag33 sz33 rfl rfl h244) ?_
                      refine LE.c (Wn.yes 5 126 true rfl rfl rfl (congrArg Value.bool hb230)) rfl (R.call bd15 (Ls.cons rfl (Ls.cons rfl Ls.nil)) rfl) (Calls.mono h ?_)
                      rintro _ w246 ⟨r245, rfl, h⟩
                      refine ⟨_, rfl, ?_⟩
                      refine LE.p (v := (Value.bool (!r245))) (Wn.yes 5 126 true rfl rfl rfl (congrArg Value.bool hb230)) rfl (R.not rfl) ?_
                      refine LE.p (v := (Value.bool (!r245))) (Wn.yes 3 124 false rfl rfl rfl (congrArg Value.bool hb229)) rfl (R.pickT (congrArg Value.bool hb230) rfl) ?_
                      refine LE.p (v := (Value.bool (!r245))) (Wn.no rfl) rfl (R.pickF (congrArg Value.bool hb229) rfl) ?_
                      refine LE.nil ?_
                      exact ⟨_, h, f182, f183, f184, rfl⟩
                    · refine LE.u (Un.no 5 126 true rfl rfl rfl (congrArg Value.bool hb230)) ?_
                      refine LE.u (Un.no 5 126 true rfl rfl rfl (congrArg Value.bool hb230)) ?_
                      refine LE.u (Un.no 5 126 true rfl rfl rfl (congrArg Value.bool hb230)) ?_
                      refine LE.u (Un.no 5 126 true rfl rfl rfl (congrArg Value.bool hb230)) ?_
                      refine LE.p (v := (Value.bool false)) (Wn.yes 3 124 false rfl rfl rfl (congrArg Value.bool hb229)) rfl (R.pickF (congrArg Value.bool hb230) rfl) ?_
                      refine LE.p (v := (Value.bool false)) (Wn.no rfl) rfl (R.pickF (congrArg Value.bool hb229) rfl) ?_
                      refine LE.nil ?_
                      exact ⟨_, h, f182, f183, f184, rfl⟩
                · rintro e247 w248 ⟨x228, h, f249, f250, f251, f252⟩
                  subst hJ227
                  refine WE.condT rfl (b := x228) f252 ?_ ?_
                  · intro hb253
                    replace h := M.ite_t h hb253
                    refine WE.seq ?_
                    refine WE.reg ?_
                    refine LE.p (v := (Value.bool false)) (Wn.no rfl) rfl (R.assign rfl) ?_
                    refine LE.nil ?_
                    refine WE.ret ?_
                    exact ⟨_, (Res.tmp rfl Res.nil), _, rfl, h⟩
                  · intro hb253
                    replace h := M.ite_f h hb253
                    refine WE.skip ?_
                    refine WE.seq ?_
                    refine WE.seq ?_
                    obtain ⟨J254, hJ254, h⟩ := M.join_use h
                    refine WE.regJ (fun e w => ∃ (x255 : Bool), J254 x255 w ∧ e 4 = (Value.pointer (some b2)) ∧ e 7 = (Value.pointer r3) ∧ e 8 = (Value.pointer r5) ∧ e 143 = (Value.bool x255)) ?_ ?_
                    · clear hJ254
                      refine LE.p (v := (Value.pointer r3)) (Wn.no rfl) rfl (R.move f250) ?_
                      refine LE.p (v := (Value.pointer (some b2))) (Wn.no rfl) rfl (R.fld (off := 0) fa33_0 f249) ?_
                      obtain ⟨t256, h257, h⟩ := h
                      obtain ⟨t258, h259, h⟩ := h
                      refine LE.r (v := (Value.agg #[(Value.int .u32 t256), (Value.int .i64 t258)])) (Wn.no rfl) rfl (R.ldA ag30 sz30 rfl rfl (Cs.cons h257 (Cs.cons h259 Cs.nil))) ?_
                      refine LE.c (Wn.no rfl) rfl (R.call bd20 (Ls.cons rfl (Ls.cons rfl Ls.nil)) rfl) (Calls.mono h ?_)
                      rintro _ w261 ⟨r260, rfl, h⟩
                      refine ⟨_, rfl, ?_⟩
                      refine LE.p (v := (Value.bool (!r260))) (Wn.no rfl) rfl (R.not rfl) ?_
                      refine LE.p (v := (Value.bool (!r260))) (Wn.no rfl) rfl (R.move rfl) ?_
                      rcases M.ite_use h with ⟨hb262, h⟩ | ⟨hb262, h⟩
                      · refine LE.u (Un.no 5 138 false rfl rfl rfl (congrArg Value.bool hb262)) ?_
                        refine LE.u (Un.no 5 138 false rfl rfl rfl (congrArg Value.bool hb262)) ?_
                        refine LE.u (Un.no 5 138 false rfl rfl rfl (congrArg Value.bool hb262)) ?_
                        refine LE.u (Un.no 5 138 false rfl rfl rfl (congrArg Value.bool hb262)) ?_
                        refine LE.p (v := (Value.bool true)) (Wn.no rfl) rfl (R.pickT (congrArg Value.bool hb262) rfl) ?_
                        refine LE.nil ?_
                        exact ⟨_, h, f249, f250, f251, rfl⟩
                      · refine LE.p (v := (Value.pointer r3)) (Wn.yes 5 138 false rfl rfl rfl (congrArg Value.bool hb262)) rfl (R.move f250) ?_
                        refine LE.p (v := (Value.pointer (some b2))) (Wn.yes 5 138 false rfl rfl rfl (congrArg Value.bool hb262)) rfl (R.fld (off := 0) fa33_0 f249) ?_
                        obtain ⟨t263, h264, h⟩ := h
                        obtain ⟨t265, h266, h⟩ := h
                        refine LE.r (v := (Value.agg #[(Value.int .u32 t263), (Value.int .i64 t265)])) (Wn.yes 5 138 false rfl rfl rfl (congrArg Value.bool hb262)) rfl (R.ldA ag30 sz30 rfl rfl (Cs.cons h264 (Cs.cons h266 Cs.nil))) ?_
                        refine LE.c (Wn.yes 5 138 false rfl rfl rfl (congrArg Value.bool hb262)) rfl (R.call bd20 (Ls.cons rfl (Ls.cons rfl Ls.nil)) rfl) (Calls.mono h ?_)
                        rintro _ w268 ⟨r267, rfl, h⟩
                        refine ⟨_, rfl, ?_⟩
                        refine LE.p (v := (Value.bool r267)) (Wn.no rfl) rfl (R.pickF (congrArg Value.bool hb262) rfl) ?_
                        refine LE.nil ?_
                        exact ⟨_, h, f249, f250, f251, rfl⟩
                    · rintro e269 w270 ⟨x255, h, f271, f272, f273, f274⟩
                      subst hJ254
                      refine WE.condT rfl (b := x255) f274 ?_ ?_
                      · intro hb275
                        replace h := M.ite_t h hb275
                        refine WE.seq ?_
                        refine WE.reg ?_
                        refine LE.p (v := (Value.bool false)) (Wn.no rfl) rfl (R.assign rfl) ?_
                        refine LE.nil ?_
                        refine WE.ret ?_
                        exact ⟨_, (Res.tmp rfl Res.nil), _, rfl, h⟩
                      · intro hb275
                        replace h := M.ite_f h hb275
                        refine WE.skip ?_
                        refine WE.seq ?_
                        refine WE.reg ?_
                        refine LE.p (v := (Value.pointer r3)) (Wn.no rfl) rfl (R.move f272) ?_
                        refine LE.p (v := (Value.pointer (some b2))) (Wn.no rfl) rfl (R.fld (off := 0) fa33_0 f271) ?_
                        obtain ⟨t276, h277, h⟩ := h
                        obtain ⟨t278, h279, h⟩ := h
                        refine LE.r (v := (Value.agg #[(Value.int .u32 t276), (Value.int .i64 t278)])) (Wn.no rfl) rfl (R.ldA ag30 sz30 rfl rfl (Cs.cons h277 (Cs.cons h279 Cs.nil))) ?_
                        refine LE.c (Wn.no rfl) rfl (R.call bd21 (Ls.cons rfl (Ls.cons rfl Ls.nil)) rfl) (Calls.mono h ?_)
                        rintro _ w287 ⟨r280, r281, r282, r283, r284, r285, r286, rfl, h⟩
                        refine ⟨_, rfl, ?_⟩
                        refine LE.p (v := (Value.tuple #[(Value.agg #[(Value.int .u32 r280), (Value.int .i64 r281), (Value.bool r282), (Value.int .i64 r283), (Value.int .u32 r284), (Value.float .f64 r285)]), (Value.bool r286)])) (Wn.no rfl) rfl (R.move rfl) ?_
                        refine LE.p (v := (Value.agg #[(Value.int .u32 r280), (Value.int .i64 r281), (Value.bool r282), (Value.int .i64 r283), (Value.int .u32 r284), (Value.float .f64 r285)])) (Wn.no rfl) rfl (R.ext rfl rfl) ?_
                        refine LE.p (v := (Value.bool r286)) (Wn.no rfl) rfl (R.ext rfl rfl) ?_
                        obtain ⟨b289, hpb289, w288, hww288, h⟩ := M.new_use h
                        refine LE.r (v := (Value.pointer (some b289))) (Wn.no rfl) rfl (R.alloc (cs := #[(Value.int .u32 (0 : Int)), (Value.int .i64 (0 : Int)), (Value.bool false), (Value.int .i64 (0 : Int)), (Value.int .u32 (0 : Int)), (Value.float .f64 (0 : Nat))]) ze33 rfl hpb289 hww288) ?_
                        obtain ⟨w290, hww290, h291, h⟩ := M.stA_use h
                        refine LE.s (Wn.no rfl) rfl (R.stA (a := b289) [(Value.int .u32 r280), (Value.int .i64 r281), (Value.bool r282), (Value.int .i64 r283), (Value.int .u32 r284), (Value.float .f64 r285)] sz33 rfl rfl rfl (by simp [Value.oneCell']) h291 hww290) ?_
                        refine LE.p (v := (Value.bool r286)) (Wn.no rfl) rfl (R.assign rfl) ?_
                        refine LE.nil ?_
                        refine WE.seq ?_
                        obtain ⟨J292, hJ292, h⟩ := M.join_use h
                        refine WE.regJ (fun e w => ∃ (x293 : Bool), J292 x293 w ∧ e 6 = (Value.bool x293)) ?_ ?_
                        · clear hJ292
                          refine LE.p (v := (Value.bool r286)) (Wn.no rfl) rfl (R.move rfl) ?_
                          refine LE.p (v := (Value.bool (!r286))) (Wn.no rfl) rfl (R.not rfl) ?_
                          refine LE.p (v := (Value.bool (!r286))) (Wn.no rfl) rfl (R.move rfl) ?_
                          rcases M.ite_use h with ⟨hb294, h⟩ | ⟨hb294, h⟩
                          · refine LE.p (v := (Value.pointer r3)) (Wn.yes 2 153 true rfl rfl rfl (congrArg Value.bool hb294)) rfl (R.move f272) ?_
                            refine LE.c (Wn.yes 2 153 true rfl rfl rfl (congrArg Value.bool hb294)) rfl (R.call bd11 (Ls.cons rfl Ls.nil) rfl) (Calls.mono h ?_)
                            rintro _ w296 ⟨r295, rfl, h⟩
                            refine ⟨_, rfl, ?_⟩
                            refine LE.p (v := (Value.int .i64 (r295.len : Int))) (Wn.yes 2 153 true rfl rfl rfl (congrArg Value.bool hb294)) rfl (R.len sl39 rfl) ?_
                            refine LE.p (v := (Value.pointer r5)) (Wn.yes 2 153 true rfl rfl rfl (congrArg Value.bool hb294)) rfl (R.move f273) ?_
                            refine LE.c (Wn.yes 2 153 true rfl rfl rfl (congrArg Value.bool hb294)) rfl (R.call bd11 (Ls.cons rfl Ls.nil) rfl) (Calls.mono h ?_)
                            rintro _ w298 ⟨r297, rfl, h⟩
                            refine ⟨_, rfl, ?_⟩
                            refine LE.p (v := (Value.int .i64 (r297.len : Int))) (Wn.yes 2 153 true rfl rfl rfl (congrArg Value.bool hb294)) rfl (R.len sl39 rfl) ?_
                            refine LE.p (v := (Value.bool ((r295.len : Int) == (r297.len : Int)))) (Wn.yes 2 153 true rfl rfl rfl (congrArg Value.bool hb294)) rfl (R.eql rfl rfl) ?_
                            refine LE.p (v := (Value.bool ((r295.len : Int) == (r297.len : Int)))) (Wn.no rfl) rfl (R.pickT (congrArg Value.bool hb294) rfl) ?_
                            refine LE.p (v := (Value.bool ((r295.len : Int) == (r297.len : Int)))) (Wn.no rfl) rfl (R.move rfl) ?_
                            rcases M.ite_use h with ⟨hb299, h⟩ | ⟨hb299, h⟩
                            · refine LE.c (Wn.yes 11 162 true rfl rfl rfl (congrArg Value.bool hb299)) rfl (R.call bd16 Ls.nil rfl) (Calls.mono h ?_)
                              rintro _ w301 ⟨r300, rfl, h⟩
                              refine ⟨_, rfl, ?_⟩
                              refine LE.p (v := (Value.bool r300)) (Wn.no rfl) rfl (R.pickT (congrArg Value.bool hb299) rfl) ?_
                              refine LE.p (v := (Value.bool r300)) (Wn.no rfl) rfl (R.assign rfl) ?_
                              refine LE.nil ?_
                              exact ⟨_, h, rfl⟩
                            · refine LE.u (Un.no 11 162 true rfl rfl rfl (congrArg Value.bool hb299)) ?_
                              refine LE.p (v := (Value.bool false)) (Wn.no rfl) rfl (R.pickF (congrArg Value.bool hb299) rfl) ?_
                              refine LE.p (v := (Value.bool false)) (Wn.no rfl) rfl (R.assign rfl) ?_
                              refine LE.nil ?_
                              exact ⟨_, h, rfl⟩
                          · refine LE.u (Un.no 2 153 true rfl rfl rfl (congrArg Value.bool hb294)) ?_
                            refine LE.u (Un.no 2 153 true rfl rfl rfl (congrArg Value.bool hb294)) ?_
                            refine LE.u (Un.no 2 153 true rfl rfl rfl (congrArg Value.bool hb294)) ?_
                            refine LE.u (Un.no 2 153 true rfl rfl rfl (congrArg Value.bool hb294)) ?_
                            refine LE.u (Un.no 2 153 true rfl rfl rfl (congrArg Value.bool hb294)) ?_
                            refine LE.u (Un.no 2 153 true rfl rfl rfl (congrArg Value.bool hb294)) ?_
                            refine LE.u (Un.no 2 153 true rfl rfl rfl (congrArg Value.bool hb294)) ?_
                            refine LE.p (v := (Value.bool false)) (Wn.no rfl) rfl (R.pickF (congrArg Value.bool hb294) rfl) ?_
                            refine LE.p (v := (Value.bool false)) (Wn.no rfl) rfl (R.move rfl) ?_
                            refine LE.u (Un.no 11 162 true rfl rfl rfl rfl) ?_
                            refine LE.p (v := (Value.bool false)) (Wn.no rfl) rfl (R.pickF rfl rfl) ?_
                            refine LE.p (v := (Value.bool false)) (Wn.no rfl) rfl (R.assign rfl) ?_
                            refine LE.nil ?_
                            exact ⟨_, h, rfl⟩
                        · rintro e302 w303 ⟨x293, h, f304⟩
                          subst hJ292
                          refine WE.ret ?_
                          exact ⟨_, (Res.tmp f304 Res.nil), _, rfl, h⟩
/-- The formula of signpost.signpostlaw15.IgpNumbers. -/
def F6  (K : Bool → World → Prop) (w0 : World) : Prop :=
Calls Try.prog 7 #[] w0 (R7 fun r1 w2 =>
M.new (.cells #[(SV.v SV.nil)] 49) w2 fun b4 w3 =>
M.ite (Option.isNone r1) (
K false w3) (
M.new (.cells #[(Value.int .u32 (0 : Int)), (Value.int .i64 (0 : Int))] 30) w3 fun b7 w6 =>
M.stA b7 [(Value.int .u32 (167772160 : Int)), (Value.int .i64 (8 : Int))] w6 fun w8 =>
Calls Try.prog 22 #[(Value.float .f64 (0 : Nat)), (Value.float .f64 (13830554455654793216 : Nat))] w8 (R22 fun r10 w11 =>
Calls Try.prog 19 #[(Value.int .i64 (1 : Int))] w11 (R19 fun r12 w13 =>
Calls Try.prog 23 #[] w13 (R23 fun r14 w15 =>
Calls Try.prog 19 #[(Value.int .i64 (-1 : Int))] w15 (R19 fun r16 w17 =>
M.new (.cells #[(Value.float .f64 (0 : Nat)), (Value.float .f64 r10), (Value.float .f64 (4607182418800017408 : Nat)), (Value.float .f64 r12), (Value.float .f64 r14), (Value.float .f64 (13830554455654793216 : Nat)), (Value.float .f64 r16), (Value.float .f64 (4607182418800017408 : Nat)), (Value.float .f64 (0 : Nat))] 31) w17 fun b20 w18 =>
M.loop1 (fun (J22 : Int → World → Prop) (x21 : Int) (w23 : World) => 
M.ite (decide (x21 < ((SV.mk (some b20) 9 9).len : Int))) (
M.idx (SV.mk (some b20) 9 9) x21 1 fun a37 =>
M.ld (Value.float .f64) (a37.add (x21.toNat * 1)) w23 fun t41 =>
M.loop1 (fun (J44 : Int → World → Prop) (x43 : Int) (w45 : World) => 
M.ite (decide (x43 < (7 : Int))) (
M.ld (Value.int .u32) b7 w45 fun t61 =>
M.ld (Value.int .i64) (b7.add 1) w45 fun t63 =>
M.new (.cells #[(Value.int .u32 (0 : Int)), (Value.int .i64 (0 : Int)), (Value.bool false), (Value.int .i64 (0 : Int)), (Value.int .u32 (0 : Int)), (Value.float .f64 (0 : Nat))] 33) w45 fun b66 w65 =>
M.stA b66 [(Value.int .u32 t61), (Value.int .i64 t63), (Value.bool ((Int.tmod x43 (2 : Int)) == (0 : Int))), (Value.int .i64 (0 : Int)), (Value.int .u32 (0 : Int)), (Value.float .f64 t41)] w65 fun w67 =>
M.join (fun (w95 : World) => 
M.join (fun (x106 : Bool) (w120 : World) => 
M.ite x106 (
K false w120) (
J44 (IntKind.i64.wrap (x43 + (1 : Int))) w120)) fun J105 => 
∃ (t107 : Int) (t108 : Int) (t109 : Bool) (t110 : Int) (t111 : Int) (t112 : Nat), Cs w95 b66 0 [(Value.int .u32 t107), (Value.int .i64 t108), (Value.bool t109), (Value.int .i64 t110), (Value.int .u32 t111), (Value.float .f64 t112)] ∧
Calls Try.prog 17 #[(Value.pointer r1), (Value.pointer (some b4)), (Value.agg #[(Value.int .i64 (1 : Int)), (Value.int .u32 t107), (Value.int .i64 t108), (Value.bool t109), (Value.int .i64 t110), (Value.int .u32 t111), (Value.float .f64 t112), (Value.int .u32 (167772161 : Int)), (Value.bool false)])] w95 (R17 fun r114 w115 =>
M.ite (!r114) (
J105 true w115) (
Calls Try.prog 18 #[(Value.pointer r1), (Value.pointer (some b4))] w115 (R18 fun r117 w118 =>
J105 (!r117) w118)))) fun J69 => 
M.ite (x43 == (1 : Int)) (
M.st (b66.add 4) (Value.int .u32 (7 : Int)) w67 fun w71 =>
J69 w71) (
M.ite (x43 == (2 : Int)) (
M.st (b66.add 3) (Value.int .i64 (255 : Int)) w67 fun w75 =>
J69 w75) (
M.ite (x43 == (3 : Int)) (
M.st (b66.add 3) (Value.int .i64 (1 : Int)) w67 fun w79 =>
J69 w79) (
M.ite (x43 == (4 : Int)) (
M.st (b66.add 4) (Value.int .u32 (7 : Int)) w67 fun w83 =>
J69 w83) (
M.ite (x43 == (5 : Int)) (
M.st b66 (Value.int .u32 (1 : Int)) w67 fun w87 =>
J69 w87) (
M.ite (x43 == (6 : Int)) (
M.st (b66.add 3) (Value.int .i64 (256 : Int)) w67 fun w91 =>
J69 w91) (
J69 w67))))))) (
J22 (IntKind.i64.wrap (x21 + (1 : Int))) w45)) (0 : Int) w23) (
M.loop1 (fun (J132 : Int → World → Prop) (x131 : Int) (w133 : World) => 
M.ite (decide (x131 < (70 : Int))) (
Calls Try.prog 17 #[(Value.pointer r1), (Value.pointer (some b4)), (Value.agg #[(Value.int .i64 (1 : Int)), (Value.int .u32 (bShl .u32 (IntKind.u32.wrap x131) (8 : Int))), (Value.int .i64 (24 : Int)), (Value.bool true), (Value.int .i64 (0 : Int)), (Value.int .u32 (0 : Int)), (Value.float .f64 (0 : Nat)), (Value.int .u32 (0 : Int)), (Value.bool false)])] w133 (R17 fun r145 w146 =>
M.ite (!r145) (
K false w146) (
J132 (IntKind.i64.wrap (x131 + (1 : Int))) w146))) (
M.join (fun (x149 : Bool) (w170 : World) => 
K x149 w170) fun J148 => 
Calls Try.prog 18 #[(Value.pointer r1), (Value.pointer (some b4))] w133 (R18 fun r150 w151 =>
M.ite r150 (
M.ld (Value.int .u32) b7 w151 fun t153 =>
M.ld (Value.int .i64) (b7.add 1) w151 fun t155 =>
Calls Try.prog 17 #[(Value.pointer r1), (Value.pointer (some b4)), (Value.agg #[(Value.int .i64 (1 : Int)), (Value.int .u32 t153), (Value.int .i64 t155), (Value.bool true), (Value.int .i64 (9 : Int)), (Value.int .u32 (0 : Int)), (Value.float .f64 (0 : Nat)), (Value.int .u32 (0 : Int)), (Value.bool false)])] w151 (R17 fun r157 w158 =>
M.ite r157 (
M.ld (Value.int .u32) b7 w158 fun t160 =>
M.ld (Value.int .i64) (b7.add 1) w158 fun t162 =>
Calls Try.prog 17 #[(Value.pointer r1), (Value.pointer (some b4)), (Value.agg #[(Value.int .i64 (2 : Int)), (Value.int .u32 t160), (Value.int .i64 t162), (Value.bool false), (Value.int .i64 (0 : Int)), (Value.int .u32 (0 : Int)), (Value.float .f64 (0 : Nat)), (Value.int .u32 (0 : Int)), (Value.bool false)])] w158 (R17 fun r164 w165 =>
M.ite r164 (
Calls Try.prog 16 #[] w165 (R16 fun r167 w168 =>
J148 r167 w168)) (
J148 false w165))) (
J148 false w158))) (
J148 false w151)))) (0 : Int) w23)) (0 : Int) w18))))))
theorem F6_ok {w0 : World}  {K : Bool → World → Prop} (h : F6 K w0) : Calls Try.prog 6 #[] w0 (R6 K) := by
  refine calls_of_WE (args := []) (rs := [.tmp 0]) Try.func6 rfl (N := 104) rfl rfl rfl rfl ?_
  refine WE.seq ?_
  refine WE.reg ?_
  refine LE.p (v := (Value.bool false)) (Wn.no rfl) rfl (R.assign rfl) ?_
  refine LE.nil ?_
  refine WE.seq ?_
  refine WE.reg ?_
  refine LE.c (Wn.no rfl) rfl (R.call bd7 Ls.nil rfl) (Calls.mono h ?_)
  rintro _ w2 ⟨r1, rfl, h⟩
  refine ⟨_, rfl, ?_⟩
  refine LE.p (v := (Value.pointer r1)) (Wn.no rfl) rfl (R.assign rfl) ?_
  refine LE.nil ?_
  refine WE.seq ?_
  refine WE.reg ?_
  refine LE.p (v := (Value.agg #[(SV.v SV.nil)])) (Wn.no rfl) rfl (R.bld (by exact Ls.nil) (fun w => bu49_  w)) ?_
  obtain ⟨b4, hpb4, w3, hww3, h⟩ := M.new_use h
  refine LE.r (v := (Value.pointer (some b4))) (Wn.no rfl) rfl (R.box (cs := #[(SV.v SV.nil)]) rfl rfl hpb4 hww3) ?_
  refine LE.p (v := (Value.pointer (some b4))) (Wn.no rfl) rfl (R.assign rfl) ?_
  refine LE.nil ?_
  refine WE.seq ?_
  refine WE.seq ?_
  refine WE.reg ?_
  refine LE.p (v := (Value.pointer r1)) (Wn.no rfl) rfl (R.move rfl) ?_
  refine LE.p (v := (Value.bool (Option.isNone r1))) (Wn.no rfl) rfl (R.peqNil pt24 rfl rfl) ?_
  refine LE.nil ?_
  refine WE.condT rfl (b := (Option.isNone r1)) rfl ?_ ?_
  · intro hb5
    replace h := M.ite_t h hb5
    refine WE.seq ?_
    refine WE.reg ?_
    refine LE.p (v := (Value.bool false)) (Wn.no rfl) rfl (R.assign rfl) ?_
    refine LE.nil ?_
    refine WE.ret ?_
    exact ⟨_, (Res.tmp rfl Res.nil), _, rfl, h⟩
  · intro hb5
    replace h := M.ite_f h hb5
    refine WE.skip ?_
    refine WE.seq ?_
    refine WE.reg ?_
    refine LE.p (v := (Value.agg #[(Value.int .u32 (167772160 : Int)), (Value.int .i64 (8 : Int))])) (Wn.no rfl) rfl (R.bld (by exact (Ls.cons (R.Pr rfl) (Ls.cons (R.Pr rfl) Ls.nil))) (fun w => bu30_0_1 (167772160 : Int) (8 : Int) w)) ?_
    obtain ⟨b7, hpb7, w6, hww6, h⟩ := M.new_use h
    refine LE.r (v := (Value.pointer (some b7))) (Wn.no rfl) rfl (R.alloc (cs := #[(Value.int .u32 (0 : Int)), (Value.int .i64 (0 : Int))]) ze30 rfl hpb7 hww6) ?_
    obtain ⟨w8, hww8, h9, h⟩ := M.stA_use h
    refine LE.s (Wn.no rfl) rfl (R.stA (a := b7) [(Value.int .u32 (167772160 : Int)), (Value.int .i64 (8 : Int))] sz30 rfl rfl rfl (by simp [Value.oneCell']) h9 hww8) ?_
    refine LE.nil ?_
    refine WE.seq ?_
    refine WE.seq ?_
    refine WE.reg ?_
    refine LE.c (Wn.no rfl) rfl (R.call bd22 (Ls.cons rfl (Ls.cons rfl Ls.nil)) rfl) (Calls.mono h ?_)
    rintro _ w11 ⟨r10, rfl, h⟩
    refine ⟨_, rfl, ?_⟩
    refine LE.c (Wn.no rfl) rfl (R.call bd19 (Ls.cons rfl Ls.nil) rfl) (Calls.mono h ?_)
    rintro _ w13 ⟨r12, rfl, h⟩
    refine ⟨_, rfl, ?_⟩
    refine LE.c (Wn.no rfl) rfl (R.call bd23 Ls.nil rfl) (Calls.mono h ?_)
    rintro _ w15 ⟨r14, rfl, h⟩
    refine ⟨_, rfl, ?_⟩
    refine LE.c (Wn.no rfl) rfl (R.call bd19 (Ls.cons rfl Ls.nil) rfl) (Calls.mono h ?_)
    rintro _ w17 ⟨r16, rfl, h⟩
    refine ⟨_, rfl, ?_⟩
    obtain ⟨b20, hpb20, w18, hww18, h⟩ := M.new_use h
    refine LE.r (v := (SV.v (SV.mk (some b20) 9 9))) (Wn.no rfl) rfl (R.bsl (by exact (Ls.cons (R.Pr rfl) (Ls.cons (R.Pr rfl) (Ls.cons (R.Pr rfl) (Ls.cons (R.Pr rfl) (Ls.cons (R.Pr rfl) (Ls.cons (R.Pr rfl) (Ls.cons (R.Pr rfl) (Ls.cons (R.Pr rfl) (Ls.cons (R.Pr rfl) Ls.nil)))))))))) (fun w => bs59_9 (0 : Nat) r10 (4607182418800017408 : Nat) r12 r14 (13830554455654793216 : Nat) r16 (4607182418800017408 : Nat) (0 : Nat) w) hpb20 hww18) ?_
    refine LE.p (v := (Value.int .i64 ((SV.mk (some b20) 9 9).len : Int))) (Wn.no rfl) rfl (R.len sl59 rfl) ?_
    refine LE.p (v := (Value.int .i64 (0 : Int))) (Wn.no rfl) rfl (R.move rfl) ?_
    refine LE.nil ?_
    refine WE.block ?_
    obtain ⟨I26, ⟨n25, h⟩, hr27⟩ := h
    refine WE.loop (fun n e w => ∃ (x21 : Int), I26 n x21 w ∧ e 1 = (Value.pointer r1) ∧ e 2 = (Value.pointer (some b4)) ∧ e 3 = (Value.pointer (some b7)) ∧ e 19 = (SV.v (SV.mk (some b20) 9 9)) ∧ e 20 = (Value.int .i64 ((SV.mk (some b20) 9 9).len : Int)) ∧ e 21 = (Value.int .i64 x21)) n25 ⟨_, h, rfl, rfl, rfl, rfl, rfl, rfl⟩ ?_
    clear h
    rintro n25 e24 w23 ⟨x21, h, f30, f31, f32, f33, f34, f35⟩
    replace h := hr27 n25 x21 w23 h
    refine WE.seq ?_
    refine WE.reg ?_
    refine LE.p (v := (Value.bool (decide (x21 < ((SV.mk (some b20) 9 9).len : Int))))) (Wn.no rfl) rfl (R.lss f35 f34) ?_
    refine LE.nil ?_
    refine WE.seq ?_
    refine WE.condT rfl (b := (decide (x21 < ((SV.mk (some b20) 9 9).len : Int)))) rfl ?_ ?_
    · intro hb36
      replace h := M.ite_t h hb36
      refine WE.skip ?_
      refine WE.seq ?_
      refine WE.block ?_
      refine WE.seq ?_
      refine WE.reg ?_
      obtain ⟨a37, h38, h39, h40, h⟩ := h
      refine LE.p (v := (Value.pointer (some (a37.add (x21.toNat * 1))))) (Wn.no rfl) rfl (R.idx (s := (SV.mk (some b20) 9 9)) sl59 f33 f35 h38 h39 h40) ?_
      obtain ⟨t41, h42, h⟩ := h
      refine LE.r (v := (Value.float .f64 t41)) (Wn.no rfl) rfl (R.ld sc31 rfl h42) ?_
      refine LE.p (v := (Value.float .f64 t41)) (Wn.no rfl) rfl (R.assign rfl) ?_
      refine LE.nil ?_
      refine WE.seq ?_
      refine WE.reg ?_
      refine LE.p (v := (Value.int .i64 (0 : Int))) (Wn.no rfl) rfl (R.assign rfl) ?_
      refine LE.nil ?_
      refine WE.block ?_
      obtain ⟨I48, ⟨n47, h⟩, hr49⟩ := h
      refine WE.loop (fun n e w => ∃ (x43 : Int), I48 n x43 w ∧ e 1 = (Value.pointer r1) ∧ e 2 = (Value.pointer (some b4)) ∧ e 3 = (Value.pointer (some b7)) ∧ e 5 = (Value.float .f64 t41) ∧ e 6 = (Value.int .i64 x43) ∧ e 19 = (SV.v (SV.mk (some b20) 9 9)) ∧ e 20 = (Value.int .i64 ((SV.mk (some b20) 9 9).len : Int)) ∧ e 21 = (Value.int .i64 x21)) n47 ⟨_, h, f30, f31, f32, rfl, rfl, f33, f34, f35⟩ ?_
      clear h
      rintro n47 e46 w45 ⟨x43, h, f52, f53, f54, f55, f56, f57, f58, f59⟩
      replace h := hr49 n47 x43 w45 h
      refine WE.seq ?_
      refine WE.seq ?_
      refine WE.reg ?_
      refine LE.p (v := (Value.int .i64 x43)) (Wn.no rfl) rfl (R.move f56) ?_
      refine LE.p (v := (Value.bool (decide (x43 < (7 : Int))))) (Wn.no rfl) rfl (R.lss rfl rfl) ?_
      refine LE.nil ?_
      refine WE.condT rfl (b := (decide (x43 < (7 : Int)))) rfl ?_ ?_
      · intro hb60
        replace h := M.ite_t h hb60
        refine WE.skip ?_
        refine WE.seq ?_
        refine WE.block ?_
        refine WE.seq ?_
        refine WE.reg ?_
        obtain ⟨t61, h62, h⟩ := h
        obtain ⟨t63, h64, h⟩ := h
        refine LE.r (v := (Value.agg #[(Value.int .u32 t61), (Value.int .i64 t63)])) (Wn.no rfl) rfl (R.ldA ag30 sz30 f54 rfl (Cs.cons h62 (Cs.cons h64 Cs.nil))) ?_
        refine LE.p (v := (Value.int .i64 x43)) (Wn.no rfl) rfl (R.move f56) ?_
        refine LE.p (v := (Value.int .i64 (Int.tmod x43 (2 : Int)))) (Wn.no rfl) rfl (R.rem rfl rfl (by decide)) ?_
        refine LE.p (v := (Value.bool ((Int.tmod x43 (2 : Int)) == (0 : Int)))) (Wn.no rfl) rfl (R.eql rfl rfl) ?_
        refine LE.p (v := (Value.float .f64 t41)) (Wn.no rfl) rfl (R.move f55) ?_
        refine LE.p (v := (Value.agg #[(Value.int .u32 t61), (Value.int .i64 t63), (Value.bool ((Int.tmod x43 (2 : Int)) == (0 : Int))), (Value.int .i64 (0 : Int)), (Value.int .u32 (0 : Int)), (Value.float .f64 t41)])) (Wn.no rfl) rfl (R.bld (by exact (Ls.cons (R.Pr rfl) (Ls.cons (R.Pr rfl) (Ls.cons (R.Pr rfl) Ls.nil)))) (fun w => bu33_0_1_4 t61 t63 ((Int.tmod x43 (2 : Int)) == (0 : Int)) t41 w)) ?_
        obtain ⟨b66, hpb66, w65, hww65, h⟩ := M.new_use h
        refine LE.r (v := (Value.pointer (some b66))) (Wn.no rfl) rfl (R.alloc (cs := #[(Value.int .u32 (0 : Int)), (Value.int .i64 (0 : Int)), (Value.bool false), (Value.int .i64 (0 : Int)), (Value.int .u32 (0 : Int)), (Value.float .f64 (0 : Nat))]) ze33 rfl hpb66 hww65) ?_
        obtain ⟨w67, hww67, h68, h⟩ := M.stA_use h
        refine LE.s (Wn.no rfl) rfl (R.stA (a := b66) [(Value.int .u32 t61), (Value.int .i64 t63), (Value.bool ((Int.tmod x43 (2 : Int)) == (0 : Int))), (Value.int .i64 (0 : Int)), (Value.int .u32 (0 : Int)), (Value.float .f64 t41)] sz33 rfl rfl rfl (by simp [Value.oneCell']) h68 hww67) ?_
        refine LE.nil ?_
        refine WE.seq ?_
        refine WE.seq ?_
        refine WE.reg ?_
        refine LE.p (v := (Value.int .i64 x43)) (Wn.no rfl) rfl (R.move f56) ?_
        refine LE.nil ?_
        obtain ⟨J69, hJ69, h⟩ := M.join_use h
        refine WE.blkJ (fun e w => J69 w ∧ e 1 = (Value.pointer r1) ∧ e 2 = (Value.pointer (some b4)) ∧ e 3 = (Value.pointer (some b7)) ∧ e 5 = (Value.float .f64 t41) ∧ e 6 = (Value.int .i64 x43) ∧ e 7 = (Value.pointer (some b66)) ∧ e 19 = (SV.v (SV.mk (some b20) 9 9)) ∧ e 20 = (Value.int .i64 ((SV.mk (some b20) 9 9).len : Int)) ∧ e 21 = (Value.int .i64 x21)) ?_ ?_
        · clear hJ69
          refine WE.seq ?_
          refine WE.reg ?_
          refine LE.p (v := (Value.bool (x43 == (1 : Int)))) (Wn.no rfl) rfl (R.eql rfl rfl) ?_
          refine LE.p (v := (Value.bool (x43 == (1 : Int)))) (Wn.no rfl) rfl (R.assign rfl) ?_
          refine LE.nil ?_
          refine WE.condT rfl (b := (x43 == (1 : Int))) rfl ?_ ?_
          · intro hb70
            replace h := M.ite_t h hb70
            refine WE.reg ?_
            refine LE.p (v := (Value.pointer (some (b66.add 4)))) (Wn.no rfl) rfl (R.fld (off := 4) fa33_3 rfl) ?_
            obtain ⟨w71, hww71, h72, h73, h⟩ := M.st_use h
            refine LE.s (Wn.no rfl) rfl (R.st (a := (b66.add 4)) (v := (Value.int .u32 (7 : Int))) sz23 rfl rfl rfl rfl h72 h73 hww71) ?_
            refine LE.nil ?_
            exact ⟨h, f52, f53, f54, f55, f56, rfl, f57, f58, f59⟩
          · intro hb70
            replace h := M.ite_f h hb70
            refine WE.seq ?_
            refine WE.reg ?_
            refine LE.p (v := (Value.bool (x43 == (2 : Int)))) (Wn.no rfl) rfl (R.eql rfl rfl) ?_
            refine LE.p (v := (Value.bool (x43 == (2 : Int)))) (Wn.no rfl) rfl (R.assign rfl) ?_
            refine LE.nil ?_
            refine WE.condT rfl (b := (x43 == (2 : Int))) rfl ?_ ?_
            · intro hb74
              replace h := M.ite_t h hb74
              refine WE.reg ?_
              refine LE.p (v := (Value.pointer (some (b66.add 3)))) (Wn.no rfl) rfl (R.fld (off := 3) fa33_2 rfl) ?_
              obtain ⟨w75, hww75, h76, h77, h⟩ := M.st_use h
              refine LE.s (Wn.no rfl) rfl (R.st (a := (b66.add 3)) (v := (Value.int .i64 (255 : Int))) sz3 rfl rfl rfl rfl h76 h77 hww75) ?_
              refine LE.nil ?_
              exact ⟨h, f52, f53, f54, f55, f56, rfl, f57, f58, f59⟩
            · intro hb74
              replace h := M.ite_f h hb74
              refine WE.seq ?_
              refine WE.reg ?_
              refine LE.p (v := (Value.bool (x43 == (3 : Int)))) (Wn.no rfl) rfl (R.eql rfl rfl) ?_
              refine LE.p (v := (Value.bool (x43 == (3 : Int)))) (Wn.no rfl) rfl (R.assign rfl) ?_
              refine LE.nil ?_
              refine WE.condT rfl (b := (x43 == (3 : Int))) rfl ?_ ?_
              · intro hb78
                replace h := M.ite_t h hb78
                refine WE.reg ?_
                refine LE.p (v := (Value.pointer (some (b66.add 3)))) (Wn.no rfl) rfl (R.fld (off := 3) fa33_2 rfl) ?_
                obtain ⟨w79, hww79, h80, h81, h⟩ := M.st_use h
                refine LE.s (Wn.no rfl) rfl (R.st (a := (b66.add 3)) (v := (Value.int .i64 (1 : Int))) sz3 rfl rfl rfl rfl h80 h81 hww79) ?_
                refine LE.nil ?_
                exact ⟨h, f52, f53, f54, f55, f56, rfl, f57, f58, f59⟩
              · intro hb78
                replace h := M.ite_f h hb78
                refine WE.seq ?_
                refine WE.reg ?_
                refine LE.p (v := (Value.bool (x43 == (4 : Int)))) (Wn.no rfl) rfl (R.eql rfl rfl) ?_
                refine LE.p (v := (Value.bool (x43 == (4 : Int)))) (Wn.no rfl) rfl (R.assign rfl) ?_
                refine LE.nil ?_
                refine WE.condT rfl (b := (x43 == (4 : Int))) rfl ?_ ?_
                · intro hb82
                  replace h := M.ite_t h hb82
                  refine WE.reg ?_
                  refine LE.p (v := (Value.pointer (some (b66.add 4)))) (Wn.no rfl) rfl (R.fld (off := 4) fa33_3 rfl) ?_
                  obtain ⟨w83, hww83, h84, h85, h⟩ := M.st_use h
                  refine LE.s (Wn.no rfl) rfl (R.st (a := (b66.add 4)) (v := (Value.int .u32 (7 : Int))) sz23 rfl rfl rfl rfl h84 h85 hww83) ?_
                  refine LE.nil ?_
                  exact ⟨h, f52, f53, f54, f55, f56, rfl, f57, f58, f59⟩
                · intro hb82
                  replace h := M.ite_f h hb82
                  refine WE.seq ?_
                  refine WE.reg ?_
                  refine LE.p (v := (Value.bool (x43 == (5 : Int)))) (Wn.no rfl) rfl (R.eql rfl rfl) ?_
                  refine LE.p (v := (Value.bool (x43 == (5 : Int)))) (Wn.no rfl) rfl (R.assign rfl) ?_
                  refine LE.nil ?_
                  refine WE.condT rfl (b := (x43 == (5 : Int))) rfl ?_ ?_
                  · intro hb86
                    replace h := M.ite_t h hb86
                    refine WE.reg ?_
                    refine LE.p (v := (Value.pointer (some b66))) (Wn.no rfl) rfl (R.fld (off := 0) fa33_0 rfl) ?_
                    refine LE.p (v := (Value.pointer (some b66))) (Wn.no rfl) rfl (R.fld (off := 0) fa30_0 rfl) ?_
                    obtain ⟨w87, hww87, h88, h89, h⟩ := M.st_use h
                    refine LE.s (Wn.no rfl) rfl (R.st (a := b66) (v := (Value.int .u32 (1 : Int))) sz23 rfl rfl rfl rfl h88 h89 hww87) ?_
                    refine LE.nil ?_
                    exact ⟨h, f52, f53, f54, f55, f56, rfl, f57, f58, f59⟩
                  · intro hb86
                    replace h := M.ite_f h hb86
                    refine WE.seq ?_
                    refine WE.reg ?_
                    refine LE.p (v := (Value.bool (x43 == (6 : Int)))) (Wn.no rfl) rfl (R.eql rfl rfl) ?_
                    refine LE.p (v := (Value.bool (x43 == (6 : Int)))) (Wn.no rfl) rfl (R.assign rfl) ?_
                    refine LE.nil ?_
                    refine WE.condT rfl (b := (x43 == (6 : Int))) rfl ?_ ?_
                    · intro hb90
                      replace h := M.ite_t h hb90
                      refine WE.reg ?_
                      refine LE.p (v := (Value.pointer (some (b66.add 3)))) (Wn.no rfl) rfl (R.fld (off := 3) fa33_2 rfl) ?_
                      obtain ⟨w91, hww91, h92, h93, h⟩ := M.st_use h
                      refine LE.s (Wn.no rfl) rfl (R.st (a := (b66.add 3)) (v := (Value.int .i64 (256 : Int))) sz3 rfl rfl rfl rfl h92 h93 hww91) ?_
                      refine LE.nil ?_
                      exact ⟨h, f52, f53, f54, f55, f56, rfl, f57, f58, f59⟩
                    · intro hb90
                      replace h := M.ite_f h hb90
                      refine WE.skip ?_
                      exact ⟨h, f52, f53, f54, f55, f56, rfl, f57, f58, f59⟩
        · rintro e94 w95 ⟨h, f96, f97, f98, f99, f100, f101, f102, f103, f104⟩
          subst hJ69
          refine WE.seq ?_
          obtain ⟨J105, hJ105, h⟩ := M.join_use h
          refine WE.regJ (fun e w => ∃ (x106 : Bool), J105 x106 w ∧ e 1 = (Value.pointer r1) ∧ e 2 = (Value.pointer (some b4)) ∧ e 3 = (Value.pointer (some b7)) ∧ e 5 = (Value.float .f64 t41) ∧ e 6 = (Value.int .i64 x43) ∧ e 19 = (SV.v (SV.mk (some b20) 9 9)) ∧ e 20 = (Value.int .i64 ((SV.mk (some b20) 9 9).len : Int)) ∧ e 21 = (Value.int .i64 x21) ∧ e 66 = (Value.bool x106)) ?_ ?_
          · clear hJ105
            refine LE.p (v := (Value.pointer r1)) (Wn.no rfl) rfl (R.move f96) ?_
            refine LE.p (v := (Value.pointer (some b4))) (Wn.no rfl) rfl (R.move f97) ?_
            obtain ⟨t107, t108, t109, t110, t111, t112, h113, h⟩ := h
            refine LE.r (v := (Value.agg #[(Value.int .u32 t107), (Value.int .i64 t108), (Value.bool t109), (Value.int .i64 t110), (Value.int .u32 t111), (Value.float .f64 t112)])) (Wn.no rfl) rfl (R.ldA ag33 sz33 f101 rfl h113) ?_
            refine LE.p (v := (Value.agg #[(Value.int .i64 (1 : Int)), (Value.int .u32 t107), (Value.int .i64 t108), (Value.bool t109), (Value.int .i64 t110), (Value.int .u32 t111), (Value.float .f64 t112), (Value.int .u32 (167772161 : Int)), (Value.bool false)])) (Wn.no rfl) rfl (R.bld (by exact (Ls.cons (R.Pr rfl) (Ls.cons (R.Pr rfl) (Ls.cons (R.Pr rfl) Ls.nil)))) (fun w => bu36_0_1_2 (1 : Int) t107 t108 t109 t110 t111 t112 (167772161 : Int) w)) ?_
            refine LE.c (Wn.no rfl) rfl (R.call bd17 (Ls.cons rfl (Ls.cons rfl (Ls.cons rfl Ls.nil))) rfl) (Calls.mono h ?_)
            rintro _ w115 ⟨r114, rfl, h⟩
            refine ⟨_, rfl, ?_⟩
            refine LE.p (v := (Value.bool (!r114))) (Wn.no rfl) rfl (R.not rfl) ?_
            refine LE.p (v := (Value.bool (!r114))) (Wn.no rfl) rfl (R.move rfl) ?_
            rcases M.ite_use h with ⟨hb116, h⟩ | ⟨hb116, h⟩
            · refine LE.u (Un.no 6 61 false rfl rfl rfl (congrArg Value.bool hb116)) ?_
              refine LE.u (Un.no 6 61 false rfl rfl rfl (congrArg Value.bool hb116)) ?_
              refine LE.u (Un.no 6 61 false rfl rfl rfl (congrArg Value.bool hb116)) ?_
              refine LE.u (Un.no 6 61 false rfl rfl rfl (congrArg Value.bool hb116)) ?_
              refine LE.p (v := (Value.bool true)) (Wn.no rfl) rfl (R.pickT (congrArg Value.bool hb116) rfl) ?_
              refine LE.nil ?_
              exact ⟨_, h, f96, f97, f98, f99, f100, f102, f103, f104, rfl⟩
            · refine LE.p (v := (Value.pointer r1)) (Wn.yes 6 61 false rfl rfl rfl (congrArg Value.bool hb116)) rfl (R.move f96) ?_
              refine LE.p (v := (Value.pointer (some b4))) (Wn.yes 6 61 false rfl rfl rfl (congrArg Value.bool hb116)) rfl (R.move f97) ?_
              refine LE.c (Wn.yes 6 61 false rfl rfl rfl (congrArg Value.bool hb116)) rfl (R.call bd18 (Ls.cons rfl (Ls.cons rfl Ls.nil)) rfl) (Calls.mono h ?_)
              rintro _ w118 ⟨r117, rfl, h⟩
              refine ⟨_, rfl, ?_⟩
              refine LE.p (v := (Value.bool (!r117))) (Wn.yes 6 61 false rfl rfl rfl (congrArg Value.bool hb116)) rfl (R.not rfl) ?_
              refine LE.p (v := (Value.bool (!r117))) (Wn.no rfl) rfl (R.pickF (congrArg Value.bool hb116) rfl) ?_
              refine LE.nil ?_
              exact ⟨_, h, f96, f97, f98, f99, f100, f102, f103, f104, rfl⟩
          · rintro e119 w120 ⟨x106, h, f121, f122, f123, f124, f125, f126, f127, f128, f129⟩
            subst hJ105
            refine WE.condT rfl (b := x106) f129 ?_ ?_
            · intro hb130
              replace h := M.ite_t h hb130
              refine WE.seq ?_
              refine WE.reg ?_
              refine LE.p (v := (Value.bool false)) (Wn.no rfl) rfl (R.assign rfl) ?_
              refine LE.nil ?_
              refine WE.ret ?_
              exact ⟨_, (Res.tmp rfl Res.nil), _, rfl, h⟩
            · intro hb130
              replace h := M.ite_f h hb130
              refine WE.skip ?_
              refine WE.reg ?_
              refine LE.p (v := (Value.int .i64 x43)) (Wn.no rfl) rfl (R.move f125) ?_
              refine LE.p (v := (Value.int .i64 (IntKind.i64.wrap (x43 + (1 : Int))))) (Wn.no rfl) rfl (R.add rfl rfl) ?_
              refine LE.p (v := (Value.int .i64 (IntKind.i64.wrap (x43 + (1 : Int))))) (Wn.no rfl) rfl (R.assign rfl) ?_
              refine LE.nil ?_
              obtain ⟨m50, hm51, h⟩ := h
              exact ⟨m50, hm51, _, h, f121, f122, f123, f124, rfl, f126, f127, f128⟩
      · intro hb60
        replace h := M.ite_f h hb60
        refine WE.exit ?_
        refine WE.reg ?_
        refine LE.p (v := (Value.int .i64 (IntKind.i64.wrap (x21 + (1 : Int))))) (Wn.no rfl) rfl (R.add f59 rfl) ?_
        refine LE.p (v := (Value.int .i64 (IntKind.i64.wrap (x21 + (1 : Int))))) (Wn.no rfl) rfl (R.move rfl) ?_
        refine LE.nil ?_
        obtain ⟨m28, hm29, h⟩ := h
        exact ⟨m28, hm29, _, h, f52, f53, f54, f57, f58, rfl⟩
    · intro hb36
      replace h := M.ite_f h hb36
      refine WE.exit ?_
      refine WE.seq ?_
      refine WE.seq ?_
      refine WE.reg ?_
      refine LE.p (v := (Value.int .i64 (0 : Int))) (Wn.no rfl) rfl (R.assign rfl) ?_
      refine LE.nil ?_
      refine WE.block ?_
      obtain ⟨I136, ⟨n135, h⟩, hr137⟩ := h
      refine WE.loop (fun n e w => ∃ (x131 : Int), I136 n x131 w ∧ e 1 = (Value.pointer r1) ∧ e 2 = (Value.pointer (some b4)) ∧ e 3 = (Value.pointer (some b7)) ∧ e 8 = (Value.int .i64 x131)) n135 ⟨_, h, f30, f31, f32, rfl⟩ ?_
      clear h
      rintro n135 e134 w133 ⟨x131, h, f140, f141, f142, f143⟩
      replace h := hr137 n135 x131 w133 h
      refine WE.seq ?_
      refine WE.seq ?_
      refine WE.reg ?_
      refine LE.p (v := (Value.int .i64 x131)) (Wn.no rfl) rfl (R.move f143) ?_
      refine LE.p (v := (Value.bool (decide (x131 < (70 : Int))))) (Wn.no rfl) rfl (R.lss rfl rfl) ?_
      refine LE.nil ?_
      refine WE.condT rfl (b := (decide (x131 < (70 : Int)))) rfl ?_ ?_
      · intro hb144
        replace h := M.ite_t h hb144
        refine WE.skip ?_
        refine WE.seq ?_
        refine WE.block ?_
        refine WE.seq ?_
        refine WE.reg ?_
        refine LE.p (v := (Value.pointer r1)) (Wn.no rfl) rfl (R.move f140) ?_
        refine LE.p (v := (Value.pointer (some b4))) (Wn.no rfl) rfl (R.move f141) ?_
        refine LE.p (v := (Value.int .i64 x131)) (Wn.no rfl) rfl (R.move f143) ?_
        refine LE.p (v := (Value.int .u32 (IntKind.u32.wrap x131))) (Wn.no rfl) rfl (R.conv in23 in3 rfl) ?_
        refine LE.p (v := (Value.int .u32 (bShl .u32 (IntKind.u32.wrap x131) (8 : Int)))) (Wn.no rfl) rfl (R.shl rfl rfl (by decide)) ?_
        refine LE.p (v := (Value.agg #[(Value.int .u32 (bShl .u32 (IntKind.u32.wrap x131) (8 : Int))), (Value.int .i64 (24 : Int))])) (Wn.no rfl) rfl (R.bld (by exact (Ls.cons (R.Pr rfl) (Ls.cons (R.Pr rfl) Ls.nil))) (fun w => bu30_0_1 (bShl .u32 (IntKind.u32.wrap x131) (8 : Int)) (24 : Int) w)) ?_
        refine LE.p (v := (Value.agg #[(Value.int .u32 (bShl .u32 (IntKind.u32.wrap x131) (8 : Int))), (Value.int .i64 (24 : Int)), (Value.bool true), (Value.int .i64 (0 : Int)), (Value.int .u32 (0 : Int)), (Value.float .f64 (0 : Nat))])) (Wn.no rfl) rfl (R.bld (by exact (Ls.cons (R.Pr rfl) (Ls.cons (R.Pr rfl) Ls.nil))) (fun w => bu33_0_1 (bShl .u32 (IntKind.u32.wrap x131) (8 : Int)) (24 : Int) true w)) ?_
        refine LE.p (v := (Value.agg #[(Value.int .i64 (1 : Int)), (Value.int .u32 (bShl .u32 (IntKind.u32.wrap x131) (8 : Int))), (Value.int .i64 (24 : Int)), (Value.bool true), (Value.int .i64 (0 : Int)), (Value.int .u32 (0 : Int)), (Value.float .f64 (0 : Nat)), (Value.int .u32 (0 : Int)), (Value.bool false)])) (Wn.no rfl) rfl (R.bld (by exact (Ls.cons (R.Pr rfl) (Ls.cons (R.Pr rfl) Ls.nil))) (fun w => bu36_0_1 (1 : Int) (bShl .u32 (IntKind.u32.wrap x131) (8 : Int)) (24 : Int) true (0 : Int) (0 : Int) (0 : Nat) w)) ?_
        refine LE.c (Wn.no rfl) rfl (R.call bd17 (Ls.cons rfl (Ls.cons rfl (Ls.cons rfl Ls.nil))) rfl) (Calls.mono h ?_)
        rintro _ w146 ⟨r145, rfl, h⟩
        refine ⟨_, rfl, ?_⟩
        refine LE.p (v := (Value.bool (!r145))) (Wn.no rfl) rfl (R.not rfl) ?_
        refine LE.nil ?_
        refine WE.condT rfl (b := (!r145)) rfl ?_ ?_
        · intro hb147
          replace h := M.ite_t h hb147
          refine WE.seq ?_
          refine WE.reg ?_
          refine LE.p (v := (Value.bool false)) (Wn.no rfl) rfl (R.assign rfl) ?_
          refine LE.nil ?_
          refine WE.ret ?_
          exact ⟨_, (Res.tmp rfl Res.nil), _, rfl, h⟩
        · intro hb147
          replace h := M.ite_f h hb147
          refine WE.skip ?_
          refine WE.reg ?_
          refine LE.p (v := (Value.int .i64 x131)) (Wn.no rfl) rfl (R.move f143) ?_
          refine LE.p (v := (Value.int .i64 (IntKind.i64.wrap (x131 + (1 : Int))))) (Wn.no rfl) rfl (R.add rfl rfl) ?_
          refine LE.p (v := (Value.int .i64 (IntKind.i64.wrap (x131 + (1 : Int))))) (Wn.no rfl) rfl (R.assign rfl) ?_
          refine LE.nil ?_
          obtain ⟨m138, hm139, h⟩ := h
          exact ⟨m138, hm139, _, h, f140, f141, f142, rfl⟩
      · intro hb144
        replace h := M.ite_f h hb144
        refine WE.exit ?_
        refine WE.seq ?_
        obtain ⟨J148, hJ148, h⟩ := M.join_use h
        refine WE.regJ (fun e w => ∃ (x149 : Bool), J148 x149 w ∧ e 0 = (Value.bool x149)) ?_ ?_
        · clear hJ148
          refine LE.p (v := (Value.pointer r1)) (Wn.no rfl) rfl (R.move f140) ?_
          refine LE.p (v := (Value.pointer (some b4))) (Wn.no rfl) rfl (R.move f141) ?_
          refine LE.c (Wn.no rfl) rfl (R.call bd18 (Ls.cons rfl (Ls.cons rfl Ls.nil)) rfl) (Calls.mono h ?_)
          rintro _ w151 ⟨r150, rfl, h⟩
          refine ⟨_, rfl, ?_⟩
          refine LE.p (v := (Value.bool r150)) (Wn.no rfl) rfl (R.move rfl) ?_
          rcases M.ite_use h with ⟨hb152, h⟩ | ⟨hb152, h⟩
          · refine LE.p (v := (Value.pointer r1)) (Wn.yes 3 85 true rfl rfl rfl (congrArg Value.bool hb152)) rfl (R.move f140) ?_
            refine LE.p (v := (Value.pointer (some b4))) (Wn.yes 3 85 true rfl rfl rfl (congrArg Value.bool hb152)) rfl (R.move f141) ?_
            obtain ⟨t153, h154, h⟩ := h
            obtain ⟨t155, h156, h⟩ := h
            refine LE.r (v := (Value.agg #[(Value.int .u32 t153), (Value.int .i64 t155)])) (Wn.yes 3 85 true rfl rfl rfl (congrArg Value.bool hb152)) rfl (R.ldA ag30 sz30 f142 rfl (Cs.cons h154 (Cs.cons h156 Cs.nil))) ?_
            refine LE.p (v := (Value.agg #[(Value.int .u32 t153), (Value.int .i64 t155), (Value.bool true), (Value.int .i64 (9 : Int)), (Value.int .u32 (0 : Int)), (Value.float .f64 (0 : Nat))])) (Wn.yes 3 85 true rfl rfl rfl (congrArg Value.bool hb152)) rfl (R.bld (by exact (Ls.cons (R.Pr rfl) (Ls.cons (R.Pr rfl) (Ls.cons (R.Pr rfl) Ls.nil)))) (fun w => bu33_0_1_2 t153 t155 true (9 : Int) w)) ?_
            refine LE.p (v := (Value.agg #[(Value.int .i64 (1 : Int)), (Value.int .u32 t153), (Value.int .i64 t155), (Value.bool true), (Value.int .i64 (9 : Int)), (Value.int .u32 (0 : Int)), (Value.float .f64 (0 : Nat)), (Value.int .u32 (0 : Int)), (Value.bool false)])) (Wn.yes 3 85 true rfl rfl rfl (congrArg Value.bool hb152)) rfl (R.bld (by exact (Ls.cons (R.Pr rfl) (Ls.cons (R.Pr rfl) Ls.nil))) (fun w => bu36_0_1 (1 : Int) t153 t155 true (9 : Int) (0 : Int) (0 : Nat) w)) ?_
            refine LE.c (Wn.yes 3 85 true rfl rfl rfl (congrArg Value.bool hb152)) rfl (R.call bd17 (Ls.cons rfl (Ls.cons rfl (Ls.cons rfl Ls.nil))) rfl) (Calls.mono h ?_)
            rintro _ w158 ⟨r157, rfl, h⟩
            refine ⟨_, rfl, ?_⟩
            refine LE.p (v := (Value.bool r157)) (Wn.no rfl) rfl (R.pickT (congrArg Value.bool hb152) rfl) ?_
            refine LE.p (v := (Value.bool r157)) (Wn.no rfl) rfl (R.move rfl) ?_
            rcases M.ite_use h with ⟨hb159, h⟩ | ⟨hb159, h⟩
            · refine LE.p (v := (Value.pointer r1)) (Wn.yes 11 93 true rfl rfl rfl (congrArg Value.bool hb159)) rfl (R.move f140) ?_
              refine LE.p (v := (Value.pointer (some b4))) (Wn.yes 11 93 true rfl rfl rfl (congrArg Value.bool hb159)) rfl (R.move f141) ?_
              obtain ⟨t160, h161, h⟩ := h
              obtain ⟨t162, h163, h⟩ := h
              refine LE.r (v := (Value.agg #[(Value.int .u32 t160), (Value.int .i64 t162)])) (Wn.yes 11 93 true rfl rfl rfl (congrArg Value.bool hb159)) rfl (R.ldA ag30 sz30 f142 rfl (Cs.cons h161 (Cs.cons h163 Cs.nil))) ?_
              refine LE.p (v := (Value.agg #[(Value.int .u32 t160), (Value.int .i64 t162), (Value.bool false), (Value.int .i64 (0 : Int)), (Value.int .u32 (0 : Int)), (Value.float .f64 (0 : Nat))])) (Wn.yes 11 93 true rfl rfl rfl (congrArg Value.bool hb159)) rfl (R.bld (by exact (Ls.cons (R.Pr rfl) Ls.nil)) (fun w => bu33_0 t160 t162 w)) ?_
              refine LE.p (v := (Value.agg #[(Value.int .i64 (2 : Int)), (Value.int .u32 t160), (Value.int .i64 t162), (Value.bool false), (Value.int .i64 (0 : Int)), (Value.int .u32 (0 : Int)), (Value.float .f64 (0 : Nat)), (Value.int .u32 (0 : Int)), (Value.bool false)])) (Wn.yes 11 93 true rfl rfl rfl (congrArg Value.bool hb159)) rfl (R.bld (by exact (Ls.cons (R.Pr rfl) (Ls.cons (R.Pr rfl) Ls.nil))) (fun w => bu36_0_1 (2 : Int) t160 t162 false (0 : Int) (0 : Int) (0 : Nat) w)) ?_
              refine LE.c (Wn.yes 11 93 true rfl rfl rfl (congrArg Value.bool hb159)) rfl (R.call bd17 (Ls.cons rfl (Ls.cons rfl (Ls.cons rfl Ls.nil))) rfl) (Calls.mono h ?_)
              rintro _ w165 ⟨r164, rfl, h⟩
              refine ⟨_, rfl, ?_⟩
              refine LE.p (v := (Value.bool r164)) (Wn.no rfl) rfl (R.pickT (congrArg Value.bool hb159) rfl) ?_
              refine LE.p (v := (Value.bool r164)) (Wn.no rfl) rfl (R.move rfl) ?_
              rcases M.ite_use h with ⟨hb166, h⟩ | ⟨hb166, h⟩
              · refine LE.c (Wn.yes 19 101 true rfl rfl rfl (congrArg Value.bool hb166)) rfl (R.call bd16 Ls.nil rfl) (Calls.mono h ?_)
                rintro _ w168 ⟨r167, rfl, h⟩
                refine ⟨_, rfl, ?_⟩
                refine LE.p (v := (Value.bool r167)) (Wn.no rfl) rfl (R.pickT (congrArg Value.bool hb166) rfl) ?_
                refine LE.p (v := (Value.bool r167)) (Wn.no rfl) rfl (R.assign rfl) ?_
                refine LE.nil ?_
                exact ⟨_, h, rfl⟩
              · refine LE.u (Un.no 19 101 true rfl rfl rfl (congrArg Value.bool hb166)) ?_
                refine LE.p (v := (Value.bool false)) (Wn.no rfl) rfl (R.pickF (congrArg Value.bool hb166) rfl) ?_
                refine LE.p (v := (Value.bool false)) (Wn.no rfl) rfl (R.assign rfl) ?_
                refine LE.nil ?_
                exact ⟨_, h, rfl⟩
            · refine LE.u (Un.no 11 93 true rfl rfl rfl (congrArg Value.bool hb159)) ?_
              refine LE.u (Un.no 11 93 true rfl rfl rfl (congrArg Value.bool hb159)) ?_
              refine LE.u (Un.no 11 93 true rfl rfl rfl (congrArg Value.bool hb159)) ?_
              refine LE.u (Un.no 11 93 true rfl rfl rfl (congrArg Value.bool hb159)) ?_
              refine LE.u (Un.no 11 93 true rfl rfl rfl (congrArg Value.bool hb159)) ?_
              refine LE.u (Un.no 11 93 true rfl rfl rfl (congrArg Value.bool hb159)) ?_
              refine LE.p (v := (Value.bool false)) (Wn.no rfl) rfl (R.pickF (congrArg Value.bool hb159) rfl) ?_
              refine LE.p (v := (Value.bool false)) (Wn.no rfl) rfl (R.move rfl) ?_
              refine LE.u (Un.no 19 101 true rfl rfl rfl rfl) ?_
              refine LE.p (v := (Value.bool false)) (Wn.no rfl) rfl (R.pickF rfl rfl) ?_
              refine LE.p (v := (Value.bool false)) (Wn.no rfl) rfl (R.assign rfl) ?_
              refine LE.nil ?_
              exact ⟨_, h, rfl⟩
          · refine LE.u (Un.no 3 85 true rfl rfl rfl (congrArg Value.bool hb152)) ?_
            refine LE.u (Un.no 3 85 true rfl rfl rfl (congrArg Value.bool hb152)) ?_
            refine LE.u (Un.no 3 85 true rfl rfl rfl (congrArg Value.bool hb152)) ?_
            refine LE.u (Un.no 3 85 true rfl rfl rfl (congrArg Value.bool hb152)) ?_
            refine LE.u (Un.no 3 85 true rfl rfl rfl (congrArg Value.bool hb152)) ?_
            refine LE.u (Un.no 3 85 true rfl rfl rfl (congrArg Value.bool hb152)) ?_
            refine LE.p (v := (Value.bool false)) (Wn.no rfl) rfl (R.pickF (congrArg Value.bool hb152) rfl) ?_
            refine LE.p (v := (Value.bool false)) (Wn.no rfl) rfl (R.move rfl) ?_
            refine LE.u (Un.no 11 93 true rfl rfl rfl rfl) ?_
            refine LE.u (Un.no 11 93 true rfl rfl rfl rfl) ?_
            refine LE.u (Un.no 11 93 true rfl rfl rfl rfl) ?_
            refine LE.u (Un.no 11 93 true rfl rfl rfl rfl) ?_
            refine LE.u (Un.no 11 93 true rfl rfl rfl rfl) ?_
            refine LE.u (Un.no 11 93 true rfl rfl rfl rfl) ?_
            refine LE.p (v := (Value.bool false)) (Wn.no rfl) rfl (R.pickF rfl rfl) ?_
            refine LE.p (v := (Value.bool false)) (Wn.no rfl) rfl (R.move rfl) ?_
            refine LE.u (Un.no 19 101 true rfl rfl rfl rfl) ?_
            refine LE.p (v := (Value.bool false)) (Wn.no rfl) rfl (R.pickF rfl rfl) ?_
            refine LE.p (v := (Value.bool false)) (Wn.no rfl) rfl (R.assign rfl) ?_
            refine LE.nil ?_
            exact ⟨_, h, rfl⟩
        · rintro e169 w170 ⟨x149, h, f171⟩
          subst hJ148
          refine WE.ret ?_
          exact ⟨_, (Res.tmp f171 Res.nil), _, rfl, h⟩
/-- The formula of signpost.igp.New. -/
def F7  (K : Option Addr → World → Prop) (w0 : World) : Prop :=
Calls Try.prog 24 #[] w0 (R24 fun r1 w2 =>
Calls Try.prog 24 #[] w2 (R24 fun r3 w4 =>
M.new (.map #[] 0) w4 fun b6 w5 =>
M.new (.cells #[(Value.pointer r1), (Value.pointer r3), (Value.map (some (Addr.block b6)))] 65) w5 fun b8 w7 =>
K (some b8) w7))
theorem F7_ok {w0 : World}  {K : Option Addr → World → Prop} (h : F7 K w0) : Calls Try.prog 7 #[] w0 (R7 K) := by
  refine calls_of_WE (args := []) (rs := [.tmp 0]) Try.func7 rfl (N := 6) rfl rfl rfl rfl ?_
  refine WE.seq ?_
  refine WE.reg ?_
  refine LE.p (v := (Value.pointer (none : Option Addr))) (Wn.no rfl) rfl (R.assign rfl) ?_
  refine LE.nil ?_
  refine WE.seq ?_
  refine WE.reg ?_
  refine LE.c (Wn.no rfl) rfl (R.call bd24 Ls.nil rfl) (Calls.mono h ?_)
  rintro _ w2 ⟨r1, rfl, h⟩
  refine ⟨_, rfl, ?_⟩
  refine LE.c (Wn.no rfl) rfl (R.call bd24 Ls.nil rfl) (Calls.mono h ?_)
  rintro _ w4 ⟨r3, rfl, h⟩
  refine ⟨_, rfl, ?_⟩
  obtain ⟨b6, hpb6, w5, hww5, h⟩ := M.new_use h
  refine LE.r (v := (Value.map (some (Addr.block b6)))) (Wn.no rfl) rfl (R.mkmap hpb6 hww5) ?_
  refine LE.p (v := (Value.agg #[(Value.pointer r1), (Value.pointer r3), (Value.map (some (Addr.block b6)))])) (Wn.no rfl) rfl (R.bld (by exact (Ls.cons (R.Pr rfl) (Ls.cons (R.Pr rfl) (Ls.cons (R.Pr rfl) Ls.nil)))) (fun w => bu65_0_1_2 r1 r3 (some (Addr.block b6)) w)) ?_
  obtain ⟨b8, hpb8, w7, hww7, h⟩ := M.new_use h
  refine LE.r (v := (Value.pointer (some b8))) (Wn.no rfl) rfl (R.box (cs := #[(Value.pointer r1), (Value.pointer r3), (Value.map (some (Addr.block b6)))]) rfl rfl hpb8 hww7) ?_
  refine LE.p (v := (Value.pointer (some b8))) (Wn.no rfl) rfl (R.assign rfl) ?_
  refine LE.nil ?_
  refine WE.ret ?_
  exact ⟨_, (Res.tmp rfl Res.nil), _, rfl, h⟩
/-- The formula of (*signpost.igp.Table).Put. -/
def F8 (p0 : Option Addr) (p1_0 : Int) (p1_1 : Int) (p1_2 : Bool) (p1_3 : Int) (p1_4 : Int) (p1_5 : Nat) (K : Bool → Int → World → Prop) (w0 : World) : Prop :=
M.new (.cells #[(Value.int .u32 p1_0), (Value.int .i64 p1_1), (Value.bool p1_2), (Value.int .i64 p1_3), (Value.int .u32 p1_4), (Value.float .f64 p1_5)] 33) w0 fun b2 w1 =>
∃ (t3 : Int) (t4 : Int) (t5 : Bool) (t6 : Int) (t7 : Int) (t8 : Nat), Cs w1 b2 0 [(Value.int .u32 t3), (Value.int .i64 t4), (Value.bool t5), (Value.int .i64 t6), (Value.int .u32 t7), (Value.float .f64 t8)] ∧
Calls Try.prog 25 #[(Value.agg #[(Value.int .u32 t3), (Value.int .i64 t4), (Value.bool t5), (Value.int .i64 t6), (Value.int .u32 t7), (Value.float .f64 t8)])] w1 (R25 fun r10 w11 =>
M.ite (!r10) (
K false (12 : Int) w11) (
M.drew w11 fun w13 => 
M.nil p0 fun a14 =>
M.ld Value.map (a14.add 2) w13 fun t16 =>
M.ld (Value.int .u32) b2 w13 fun t18 =>
M.ld (Value.int .i64) (b2.add 1) w13 fun t20 =>
∃ (t22 : Int) (t23 : Int) (t24 : Bool) (t25 : Int) (t26 : Int) (t27 : Nat) (t29 : Bool), (Instr.lookup 63 (Value.map t16) (Value.agg #[(Value.int .u32 t18), (Value.int .i64 t20)]) true).run Try.prog w13 = .ok (Value.tuple #[(Value.agg #[(Value.int .u32 t22), (Value.int .i64 t23), (Value.bool t24), (Value.int .i64 t25), (Value.int .u32 t26), (Value.float .f64 t27)]), (Value.bool t29)]) w13 ∧
M.new (.cells #[(Value.int .u32 (0 : Int)), (Value.int .i64 (0 : Int)), (Value.bool false), (Value.int .i64 (0 : Int)), (Value.int .u32 (0 : Int)), (Value.float .f64 (0 : Nat))] 33) w13 fun b31 w30 =>
M.keep ((Instr.lookup 63 (Value.map t16) (Value.agg #[(Value.int .u32 t18), (Value.int .i64 t20)]) true).run Try.prog w30 = .ok (Value.tuple #[(Value.agg #[(Value.int .u32 t22), (Value.int .i64 t23), (Value.bool t24), (Value.int .i64 t25), (Value.int .u32 t26), (Value.float .f64 t27)]), (Value.bool t29)]) w30) <|
M.keep (w30.cell? b2 = some (Value.int .u32 t18)) <|
M.keep (w30.cell? (b2.add 1) = some (Value.int .i64 t20)) <|
M.keep (w30.cell? (a14.add 2) = some (Value.map t16)) <|
M.stA b31 [(Value.int .u32 t22), (Value.int .i64 t23), (Value.bool t24), (Value.int .i64 t25), (Value.int .u32 t26), (Value.float .f64 t27)] w30 fun w36 =>
M.join (fun (x39 : Bool) (w48 : World) => 
M.ite x39 (
K false (13 : Int) w48) (
M.ld (Value.float .f64) (b2.add 5) w48 fun t55 =>
Calls Try.prog 26 #[(Value.float .f64 t55)] w48 (R26 fun r57 w58 =>
M.st (b2.add 5) (Value.float .f64 r57) w58 fun w59 =>
M.drew w59 fun w62 => 
M.nil p0 fun a63 =>
M.ld Value.map (a63.add 2) w62 fun t65 =>
M.ld (Value.int .u32) b2 w62 fun t67 =>
M.ld (Value.int .i64) (b2.add 1) w62 fun t69 =>
∃ (t71 : Int) (t72 : Int) (t73 : Bool) (t74 : Int) (t75 : Int) (t76 : Nat), Cs w62 b2 0 [(Value.int .u32 t71), (Value.int .i64 t72), (Value.bool t73), (Value.int .i64 t74), (Value.int .u32 t75), (Value.float .f64 t76)] ∧
∃ w78, (Instr.mapUpdate 63 (Value.map t65) (Value.agg #[(Value.int .u32 t67), (Value.int .i64 t69)]) (Value.agg #[(Value.int .u32 t71), (Value.int .i64 t72), (Value.bool t73), (Value.int .i64 t74), (Value.int .u32 t75), (Value.float .f64 t76)])).run Try.prog w62 = .ok () w78 ∧
M.drew w78 fun w80 => 
M.nil p0 fun a81 =>
M.ld Value.pointer a81 w80 fun t83 =>
M.ld (Value.int .u32) b2 w80 fun t85 =>
M.ld (Value.int .i64) (b2.add 1) w80 fun t87 =>
Calls Try.prog 27 #[(Value.pointer t83), (Value.agg #[(Value.int .u32 t85), (Value.int .i64 t87)]), (Value.int .i64 (0 : Int))] w80 (R27 fun r89 w90 =>
M.join (fun (w120 : World) => 
M.join (fun (x125 : Bool) (x126 : Int) (w145 : World) => 
K x125 x126 w145) fun J124 => 
M.ite (!t29) (
J124 true (0 : Int) w120) (
∃ (t128 : Int) (t129 : Int) (t130 : Bool) (t131 : Int) (t132 : Int) (t133 : Nat), Cs w120 b31 0 [(Value.int .u32 t128), (Value.int .i64 t129), (Value.bool t130), (Value.int .i64 t131), (Value.int .u32 t132), (Value.float .f64 t133)] ∧
∃ (t135 : Int) (t136 : Int) (t137 : Bool) (t138 : Int) (t139 : Int) (t140 : Nat), Cs w120 b2 0 [(Value.int .u32 t135), (Value.int .i64 t136), (Value.bool t137), (Value.int .i64 t138), (Value.int .u32 t139), (Value.float .f64 t140)] ∧
Calls Try.prog 29 #[(Value.agg #[(Value.int .u32 t128), (Value.int .i64 t129), (Value.bool t130), (Value.int .i64 t131), (Value.int .u32 t132), (Value.float .f64 t133)]), (Value.agg #[(Value.int .u32 t135), (Value.int .i64 t136), (Value.bool t137), (Value.int .i64 t138), (Value.int .u32 t139), (Value.float .f64 t140)])] w120 (R29 fun r142 w143 =>
J124 (!r142) (0 : Int) w143))) fun J91 => 
M.ld (Value.float .f64) (b2.add 5) w90 fun t92 =>
Calls Try.prog 14 #[(Value.float .f64 t92), (Value.int .i64 (1 : Int))] w90 (R14 fun r94 w95 =>
M.ite r94 (
M.drew w95 fun w97 => 
M.nil p0 fun a98 =>
M.ld Value.pointer (a98.add 1) w97 fun t100 =>
M.ld (Value.int .u32) b2 w97 fun t102 =>
M.ld (Value.int .i64) (b2.add 1) w97 fun t104 =>
Calls Try.prog 28 #[(Value.pointer t100), (Value.agg #[(Value.int .u32 t102), (Value.int .i64 t104)])] w97 (R28 fun r106 w107 =>
J91 w107)) (
M.drew w95 fun w108 => 
M.nil p0 fun a109 =>
M.ld Value.pointer (a109.add 1) w108 fun t111 =>
M.ld (Value.int .u32) b2 w108 fun t113 =>
M.ld (Value.int .i64) (b2.add 1) w108 fun t115 =>
Calls Try.prog 27 #[(Value.pointer t111), (Value.agg #[(Value.int .u32 t113), (Value.int .i64 t115)]), (Value.int .i64 (0 : Int))] w108 (R27 fun r117 w118 =>
J91 w118))))))) fun J38 => 
M.ite (!t29) (
M.nil p0 fun a41 =>
M.ld Value.map (a41.add 2) w36 fun t43 =>
∃ (t45 : Int), (Builtin.len_ #[63] 3 #[(Value.map t43)]).run Try.prog w36 = .ok (.int .i64 t45) w36 ∧
J38 (decide ((64 : Int) ≤ t45)) w36) (
J38 false w36)))
theorem F8_ok {w0 : World} {p0 : Option Addr} {p1_0 : Int} {p1_1 : Int} {p1_2 : Bool} {p1_3 : Int} {p1_4 : Int} {p1_5 : Nat} {K : Bool → Int → World → Prop} (h : F8 p0 p1_0 p1_1 p1_2 p1_3 p1_4 p1_5 K w0) : Calls Try.prog 8 #[(Value.pointer p0), (Value.agg #[(Value.int .u32 p1_0), (Value.int .i64 p1_1), (Value.bool p1_2), (Value.int .i64 p1_3), (Value.int .u32 p1_4), (Value.float .f64 p1_5)])] w0 (R8 K) := by
  refine calls_of_WE (args := [(Value.pointer p0), (Value.agg #[(Value.int .u32 p1_0), (Value.int .i64 p1_1), (Value.bool p1_2), (Value.int .i64 p1_3), (Value.int .u32 p1_4), (Value.float .f64 p1_5)])]) (rs := [.tmp 4, .tmp 5]) Try.func8 rfl (N := 74) rfl rfl rfl rfl ?_
  refine WE.seq ?_
  refine WE.reg ?_
  obtain ⟨b2, hpb2, w1, hww1, h⟩ := M.new_use h
  refine LE.r (v := (Value.pointer (some b2))) (Wn.no rfl) rfl (R.box (cs := #[(Value.int .u32 p1_0), (Value.int .i64 p1_1), (Value.bool p1_2), (Value.int .i64 p1_3), (Value.int .u32 p1_4), (Value.float .f64 p1_5)]) rfl rfl hpb2 hww1) ?_
  refine LE.p (v := (Value.bool false)) (Wn.no rfl) rfl (R.assign rfl) ?_
  refine LE.p (v := (Value.int .i64 (0 : Int))) (Wn.no rfl) rfl (R.assign rfl) ?_
  refine LE.nil ?_
  refine WE.seq ?_
  refine WE.seq ?_
  refine WE.reg ?_
  obtain ⟨t3, t4, t5, t6, t7, t8, h9, h⟩ := h
  refine LE.r (v := (Value.agg #[(Value.int .u32 t3), (Value.int .i64 t4), (Value.bool t5), (Value.int .i64 t6), (Value.int .u32 t7), (Value.float .f64 t8)])) (Wn.no rfl) rfl (R.ldA ag33 sz33 rfl rfl h9) ?_
  refine LE.c (Wn.no rfl) rfl (R.call bd25 (Ls.cons rfl Ls.nil) rfl) (Calls.mono h ?_)
  rintro _ w11 ⟨r10, rfl, h⟩
  refine ⟨_, rfl, ?_⟩
  refine LE.p (v := (Value.bool (!r10))) (Wn.no rfl) rfl (R.not rfl) ?_
  refine LE.nil ?_
  refine WE.condT rfl (b := (!r10)) rfl ?_ ?_
  · intro hb12
    replace h := M.ite_t h hb12
    refine WE.seq ?_
    refine WE.reg ?_
    refine LE.p (v := (Value.bool false)) (Wn.no rfl) rfl (R.assign rfl) ?_
    refine LE.p (v := (Value.int .i64 (12 : Int))) (Wn.no rfl) rfl (R.assign rfl) ?_
    refine LE.nil ?_
    refine WE.ret ?_
    exact ⟨_, (Res.tmp rfl (Res.tmp rfl Res.nil)), _, _, rfl, h⟩
  · intro hb12
    replace h := M.ite_f h hb12
    refine WE.skip ?_
    refine WE.seq ?_
    refine WE.draw mix ?_
    obtain ⟨w13, hww13, h⟩ := M.drew_use h
    rw [← hww13]
    clear hww13
    refine DE.t 0 (v := (Value.pointer p0)) rfl (by kernel_rfl) (Wn.no rfl) rfl (R.move rfl) ?_
    obtain ⟨a14, h15, h⟩ := h
    refine DE.t 1 (v := (Value.pointer (some a14))) rfl (by kernel_rfl) (Wn.no rfl) rfl (R.nilC (congrArg Value.pointer h15)) ?_
    refine DE.t 2 (v := (Value.pointer (some (a14.add 2)))) rfl (by kernel_rfl) (Wn.no rfl) rfl (R.fld (off := 2) fa65_2 rfl) ?_
    refine DE.t 4 (v := (Value.pointer (some b2))) rfl (by kernel_rfl) (Wn.no rfl) rfl (R.fld (off := 0) fa33_0 rfl) ?_
    obtain ⟨t16, h17, h⟩ := h
    refine DE.hold 3 (fun w => w.cell? (a14.add 2) = some (Value.map t16)) (v := (Value.map t16)) rfl (by kernel_rfl) (Wn.no rfl) rfl h17 (fun w hs => R.ld sc63 rfl hs) ?_
    obtain ⟨t18, h19, h⟩ := h
    obtain ⟨t20, h21, h⟩ := h
    refine DE.hold 5 (fun w => w.cell? b2 = some (Value.int .u32 t18) ∧ w.cell? (b2.add 1) = some (Value.int .i64 t20)) (v := (Value.agg #[(Value.int .u32 t18), (Value.int .i64 t20)])) rfl (by kernel_rfl) (Wn.no rfl) rfl ⟨h19, h21⟩ (fun w hs => R.ldA ag30 sz30 rfl rfl (Cs.cons hs.1 (Cs.cons hs.2 Cs.nil))) ?_
    obtain ⟨t22, t23, t24, t25, t26, t27, t29, h28, h⟩ := h
    refine DE.hold 6 (fun w => (Instr.lookup 63 (Value.map t16) (Value.agg #[(Value.int .u32 t18), (Value.int .i64 t20)]) true).run Try.prog w = .ok (Value.tuple #[(Value.agg #[(Value.int .u32 t22), (Value.int .i64 t23), (Value.bool t24), (Value.int .i64 t25), (Value.int .u32 t26), (Value.float .f64 t27)]), (Value.bool t29)]) w) (v := (Value.tuple #[(Value.agg #[(Value.int .u32 t22), (Value.int .i64 t23), (Value.bool t24), (Value.int .i64 t25), (Value.int .u32 t26), (Value.float .f64 t27)]), (Value.bool t29)])) rfl (by kernel_rfl) (Wn.no rfl) rfl h28 (fun w hs => R.look rfl rfl hs) ?_
    refine DE.t 7 (v := (Value.tuple #[(Value.agg #[(Value.int .u32 t22), (Value.int .i64 t23), (Value.bool t24), (Value.int .i64 t25), (Value.int .u32 t26), (Value.float .f64 t27)]), (Value.bool t29)])) rfl (by kernel_rfl) (Wn.no rfl) rfl (R.move rfl) ?_
    refine DE.t 8 (v := (Value.agg #[(Value.int .u32 t22), (Value.int .i64 t23), (Value.bool t24), (Value.int .i64 t25), (Value.int .u32 t26), (Value.float .f64 t27)])) rfl (by kernel_rfl) (Wn.no rfl) rfl (R.ext rfl rfl) ?_
    refine DE.t 9 (v := (Value.bool t29)) rfl (by kernel_rfl) (Wn.no rfl) rfl (R.ext rfl rfl) ?_
    obtain ⟨b31, hpb31, w30, hww30, h⟩ := M.new_use h
    obtain ⟨k32, h⟩ := h
    obtain ⟨k33, h⟩ := h
    obtain ⟨k34, h⟩ := h
    obtain ⟨k35, h⟩ := h
    refine DE.main 10 (by kernel_rfl) ?_
    refine One.r 10 (v := (Value.pointer (some b31))) rfl (Wn.no rfl) rfl (R.alloc (cs := #[(Value.int .u32 (0 : Int)), (Value.int .i64 (0 : Int)), (Value.bool false), (Value.int .i64 (0 : Int)), (Value.int .u32 (0 : Int)), (Value.float .f64 (0 : Nat))]) ze33 rfl hpb31 hww30) (.inr ⟨fun _ => k32, fun _ => ⟨k33, k34⟩, fun _ => k35, trivial⟩) ?_
    obtain ⟨w36, hww36, h37, h⟩ := M.stA_use h
    refine DE.main 11 (by kernel_rfl) ?_
    refine One.s 11 rfl (Wn.no rfl) rfl (R.stA (a := b31) [(Value.int .u32 t22), (Value.int .i64 t23), (Value.bool t24), (Value.int .i64 t25), (Value.int .u32 t26), (Value.float .f64 t27)] sz33 rfl rfl rfl (by simp [Value.oneCell']) h37 hww36) ⟨aftT (by kernel_rfl), aftT (by kernel_rfl), aftT (by kernel_rfl), trivial⟩ ?_
    refine DE.t 12 (v := (Value.bool t29)) rfl (by kernel_rfl) (Wn.no rfl) rfl (R.assign rfl) ?_
    refine DE.done (by kernel_rfl) ?_
    refine WE.seq ?_
    refine WE.seq ?_
    obtain ⟨J38, hJ38, h⟩ := M.join_use h
    refine WE.regJ (fun e w => ∃ (x39 : Bool), J38 x39 w ∧ e 0 = (Value.pointer p0) ∧ e 3 = (Value.pointer (some b2)) ∧ e 6 = (Value.pointer (some b31)) ∧ e 7 = (Value.bool t29) ∧ e 30 = (Value.bool x39)) ?_ ?_
    · clear hJ38
      refine LE.p (v := (Value.bool t29)) (Wn.no rfl) rfl (R.move rfl) ?_
      refine LE.p (v := (Value.bool (!t29))) (Wn.no rfl) rfl (R.not rfl) ?_
      refine LE.p (v := (Value.bool (!t29))) (Wn.no rfl) rfl (R.move rfl) ?_
      rcases M.ite_use h with ⟨hb40, h⟩ | ⟨hb40, h⟩
      · refine LE.p (v := (Value.pointer p0)) (Wn.yes 2 23 true rfl rfl rfl (congrArg Value.bool hb40)) rfl (R.move rfl) ?_
        obtain ⟨a41, h42, h⟩ := h
        refine LE.p (v := (Value.pointer (some a41))) (Wn.yes 2 23 true rfl rfl rfl (congrArg Value.bool hb40)) rfl (R.nilC (congrArg Value.pointer h42)) ?_
        refine LE.p (v := (Value.pointer (some (a41.add 2)))) (Wn.yes 2 23 true rfl rfl rfl (congrArg Value.bool hb40)) rfl (R.fld (off := 2) fa65_2 rfl) ?_
        obtain ⟨t43, h44, h⟩ := h
        refine LE.r (v := (Value.map t43)) (Wn.yes 2 23 true rfl rfl rfl (congrArg Value.bool hb40)) rfl (R.ld sc63 rfl h44) ?_
        obtain ⟨t45, h46, h⟩ := h
        refine LE.r (v := (Value.int .i64 t45)) (Wn.yes 2 23 true rfl rfl rfl (congrArg Value.bool hb40)) rfl (R.mlen rfl h46) ?_
        refine LE.p (v := (Value.bool (decide ((64 : Int) ≤ t45)))) (Wn.yes 2 23 true rfl rfl rfl (congrArg Value.bool hb40)) rfl (R.geq rfl rfl) ?_
        refine LE.p (v := (Value.bool (decide ((64 : Int) ≤ t45)))) (Wn.no rfl) rfl (R.pickT (congrArg Value.bool hb40) rfl) ?_
        refine LE.nil ?_
        exact ⟨_, h, rfl, rfl, rfl, rfl, rfl⟩
      · refine LE.u (Un.no 2 23 true rfl rfl rfl (congrArg Value.bool hb40)) ?_
        refine LE.u (Un.no 2 23 true rfl rfl rfl (congrArg Value.bool hb40)) ?_
        refine LE.u (Un.no 2 23 true rfl rfl rfl (congrArg Value.bool hb40)) ?_
        refine LE.u (Un.no 2 23 true rfl rfl rfl (congrArg Value.bool hb40)) ?_
        refine LE.u (Un.no 2 23 true rfl rfl rfl (congrArg Value.bool hb40)) ?_
        refine LE.u (Un.no 2 23 true rfl rfl rfl (congrArg Value.bool hb40)) ?_
        refine LE.p (v := (Value.bool false)) (Wn.no rfl) rfl (R.pickF (congrArg Value.bool hb40) rfl) ?_
        refine LE.nil ?_
        exact ⟨_, h, rfl, rfl, rfl, rfl, rfl⟩
    · rintro e47 w48 ⟨x39, h, f49, f50, f51, f52, f53⟩
      subst hJ38
      refine WE.condT rfl (b := x39) f53 ?_ ?_
      · intro hb54
        replace h := M.ite_t h hb54
        refine WE.seq ?_
        refine WE.reg ?_
        refine LE.p (v := (Value.bool false)) (Wn.no rfl) rfl (R.assign rfl) ?_
        refine LE.p (v := (Value.int .i64 (13 : Int))) (Wn.no rfl) rfl (R.assign rfl) ?_
        refine LE.nil ?_
        refine WE.ret ?_
        exact ⟨_, (Res.tmp rfl (Res.tmp rfl Res.nil)), _, _, rfl, h⟩
      · intro hb54
        replace h := M.ite_f h hb54
        refine WE.skip ?_
        refine WE.seq ?_
        refine WE.reg ?_
        refine LE.p (v := (Value.pointer (some (b2.add 5)))) (Wn.no rfl) rfl (R.fld (off := 5) fa33_4 f50) ?_
        obtain ⟨t55, h56, h⟩ := h
        refine LE.r (v := (Value.float .f64 t55)) (Wn.no rfl) rfl (R.ld sc31 rfl h56) ?_
        refine LE.c (Wn.no rfl) rfl (R.call bd26 (Ls.cons rfl Ls.nil) rfl) (Calls.mono h ?_)
        rintro _ w58 ⟨r57, rfl, h⟩
        refine ⟨_, rfl, ?_⟩
        refine LE.p (v := (Value.pointer (some (b2.add 5)))) (Wn.no rfl) rfl (R.fld (off := 5) fa33_4 f50) ?_
        obtain ⟨w59, hww59, h60, h61, h⟩ := M.st_use h
        refine LE.s (Wn.no rfl) rfl (R.st (a := (b2.add 5)) (v := (Value.float .f64 r57)) sz31 rfl rfl rfl rfl h60 h61 hww59) ?_
        refine LE.nil ?_
        refine WE.seq ?_
        refine WE.draw mix ?_
        obtain ⟨w62, hww62, h⟩ := M.drew_use h
        rw [← hww62]
        clear hww62
        refine DE.t 0 (v := (Value.pointer p0)) rfl (by kernel_rfl) (Wn.no rfl) rfl (R.move f49) ?_
        obtain ⟨a63, h64, h⟩ := h
        refine DE.t 1 (v := (Value.pointer (some a63))) rfl (by kernel_rfl) (Wn.no rfl) rfl (R.nilC (congrArg Value.pointer h64)) ?_
        refine DE.t 2 (v := (Value.pointer (some (a63.add 2)))) rfl (by kernel_rfl) (Wn.no rfl) rfl (R.fld (off := 2) fa65_2 rfl) ?_
        refine DE.t 4 (v := (Value.pointer (some b2))) rfl (by kernel_rfl) (Wn.no rfl) rfl (R.fld (off := 0) fa33_0 f50) ?_
        obtain ⟨t65, h66, h⟩ := h
        refine DE.hold 3 (fun w => w.cell? (a63.add 2) = some (Value.map t65)) (v := (Value.map t65)) rfl (by kernel_rfl) (Wn.no rfl) rfl h66 (fun w hs => R.ld sc63 rfl hs) ?_
        obtain ⟨t67, h68, h⟩ := h
        obtain ⟨t69, h70, h⟩ := h
        refine DE.hold 5 (fun w => w.cell? b2 = some (Value.int .u32 t67) ∧ w.cell? (b2.add 1) = some (Value.int .i64 t69)) (v := (Value.agg #[(Value.int .u32 t67), (Value.int .i64 t69)])) rfl (by kernel_rfl) (Wn.no rfl) rfl ⟨h68, h70⟩ (fun w hs => R.ldA ag30 sz30 rfl rfl (Cs.cons hs.1 (Cs.cons hs.2 Cs.nil))) ?_
        obtain ⟨t71, t72, t73, t74, t75, t76, h77, h⟩ := h
        refine DE.main 6 (by kernel_rfl) ?_
        refine One.r 6 (v := (Value.agg #[(Value.int .u32 t71), (Value.int .i64 t72), (Value.bool t73), (Value.int .i64 t74), (Value.int .u32 t75), (Value.float .f64 t76)])) rfl (Wn.no rfl) rfl (R.ldA ag33 sz33 f50 rfl h77) (.inl rfl) ?_
        obtain ⟨w78, h79, h⟩ := h
        refine DE.main 7 (by kernel_rfl) ?_
        refine One.s 7 rfl (Wn.no rfl) rfl (R.upd rfl rfl rfl h79) ⟨aftT (by kernel_rfl), aftT (by kernel_rfl), trivial⟩ ?_
        refine DE.done (by kernel_rfl) ?_
        refine WE.seq ?_
        refine WE.draw mix ?_
        obtain ⟨w80, hww80, h⟩ := M.drew_use h
        rw [← hww80]
        clear hww80
        refine DE.t 0 (v := (Value.pointer p0)) rfl (by kernel_rfl) (Wn.no rfl) rfl (R.move f49) ?_
        obtain ⟨a81, h82, h⟩ := h
        refine DE.t 1 (v := (Value.pointer (some a81))) rfl (by kernel_rfl) (Wn.no rfl) rfl (R.nilC (congrArg Value.pointer h82)) ?_
        refine DE.t 2 (v := (Value.pointer (some a81))) rfl (by kernel_rfl) (Wn.no rfl) rfl (R.fld (off := 0) fa65_0 rfl) ?_
        refine DE.t 4 (v := (Value.pointer (some b2))) rfl (by kernel_rfl) (Wn.no rfl) rfl (R.fld (off := 0) fa33_0 f50) ?_
        obtain ⟨t83, h84, h⟩ := h
        refine DE.hold 3 (fun w => w.cell? a81 = some (Value.pointer t83)) (v := (Value.pointer t83)) rfl (by kernel_rfl) (Wn.no rfl) rfl h84 (fun w hs => R.ld sc61 rfl hs) ?_
        obtain ⟨t85, h86, h⟩ := h
        obtain ⟨t87, h88, h⟩ := h
        refine DE.main 5 (by kernel_rfl) ?_
        refine One.r 5 (v := (Value.agg #[(Value.int .u32 t85), (Value.int .i64 t87)])) rfl (Wn.no rfl) rfl (R.ldA ag30 sz30 rfl rfl (Cs.cons h86 (Cs.cons h88 Cs.nil))) (.inl rfl) ?_
        refine DE.main 6 (by kernel_rfl) ?_
        refine One.c 6 rfl (Wn.no rfl) rfl (R.call bd27 (Ls.cons rfl (Ls.cons rfl (Ls.cons rfl Ls.nil))) rfl) (Calls.mono h ?_)
        rintro _ w90 ⟨r89, rfl, h⟩
        refine ⟨_, rfl, ⟨aftT (by kernel_rfl), trivial⟩, ?_⟩
        refine DE.done (by kernel_rfl) ?_
        obtain ⟨J91, hJ91, h⟩ := M.join_use h
        refine WE.join (fun e w => J91 w ∧ e 3 = (Value.pointer (some b2)) ∧ e 6 = (Value.pointer (some b31)) ∧ e 7 = (Value.bool t29)) ?_ ?_
        · clear hJ91
          refine WE.seq ?_
          refine WE.reg ?_
          refine LE.p (v := (Value.pointer (some (b2.add 5)))) (Wn.no rfl) rfl (R.fld (off := 5) fa33_4 f50) ?_
          obtain ⟨t92, h93, h⟩ := h
          refine LE.r (v := (Value.float .f64 t92)) (Wn.no rfl) rfl (R.ld sc31 rfl h93) ?_
          refine LE.c (Wn.no rfl) rfl (R.call bd14 (Ls.cons rfl (Ls.cons rfl Ls.nil)) rfl) (Calls.mono h ?_)
          rintro _ w95 ⟨r94, rfl, h⟩
          refine ⟨_, rfl, ?_⟩
          refine LE.nil ?_
          refine WE.condT rfl (b := r94) rfl ?_ ?_
          · intro hb96
            replace h := M.ite_t h hb96
            refine WE.draw mix ?_
            obtain ⟨w97, hww97, h⟩ := M.drew_use h
            rw [← hww97]
            clear hww97
            refine DE.t 0 (v := (Value.pointer p0)) rfl (by kernel_rfl) (Wn.no rfl) rfl (R.move f49) ?_
            obtain ⟨a98, h99, h⟩ := h
            refine DE.t 1 (v := (Value.pointer (some a98))) rfl (by kernel_rfl) (Wn.no rfl) rfl (R.nilC (congrArg Value.pointer h99)) ?_
            refine DE.t 2 (v := (Value.pointer (some (a98.add 1)))) rfl (by kernel_rfl) (Wn.no rfl) rfl (R.fld (off := 1) fa65_1 rfl) ?_
            refine DE.t 4 (v := (Value.pointer (some b2))) rfl (by kernel_rfl) (Wn.no rfl) rfl (R.fld (off := 0) fa33_0 f50) ?_
            obtain ⟨t100, h101, h⟩ := h
            refine DE.hold 3 (fun w => w.cell? (a98.add 1) = some (Value.pointer t100)) (v := (Value.pointer t100)) rfl (by kernel_rfl) (Wn.no rfl) rfl h101 (fun w hs => R.ld sc61 rfl hs) ?_
            obtain ⟨t102, h103, h⟩ := h
            obtain ⟨t104, h105, h⟩ := h
            refine DE.main 5 (by kernel_rfl) ?_
            refine One.r 5 (v := (Value.agg #[(Value.int .u32 t102), (Value.int .i64 t104)])) rfl (Wn.no rfl) rfl (R.ldA ag30 sz30 rfl rfl (Cs.cons h103 (Cs.cons h105 Cs.nil))) (.inl rfl) ?_
            refine DE.main 6 (by kernel_rfl) ?_
            refine One.c 6 rfl (Wn.no rfl) rfl (R.call bd28 (Ls.cons rfl (Ls.cons rfl Ls.nil)) rfl) (Calls.mono h ?_)
            rintro _ w107 ⟨r106, rfl, h⟩
            refine ⟨_, rfl, ⟨aftT (by kernel_rfl), trivial⟩, ?_⟩
            refine DE.done (by kernel_rfl) ?_
            exact ⟨h, f50, f51, f52⟩
          · intro hb96
            replace h := M.ite_f h hb96
            refine WE.draw mix ?_
            obtain ⟨w108, hww108, h⟩ := M.drew_use h
            rw [← hww108]
            clear hww108
            refine DE.t 0 (v := (Value.pointer p0)) rfl (by kernel_rfl) (Wn.no rfl) rfl (R.move f49) ?_
            obtain ⟨a109, h110, h⟩ := h
            refine DE.t 1 (v := (Value.pointer (some a109))) rfl (by kernel_rfl) (Wn.no rfl) rfl (R.nilC (congrArg Value.pointer h110)) ?_
            refine DE.t 2 (v := (Value.pointer (some (a109.add 1)))) rfl (by kernel_rfl) (Wn.no rfl) rfl (R.fld (off := 1) fa65_1 rfl) ?_
            refine DE.t 4 (v := (Value.pointer (some b2))) rfl (by kernel_rfl) (Wn.no rfl) rfl (R.fld (off := 0) fa33_0 f50) ?_
            obtain ⟨t111, h112, h⟩ := h
            refine DE.hold 3 (fun w => w.cell? (a109.add 1) = some (Value.pointer t111)) (v := (Value.pointer t111)) rfl (by kernel_rfl) (Wn.no rfl) rfl h112 (fun w hs => R.ld sc61 rfl hs) ?_
            obtain ⟨t113, h114, h⟩ := h
            obtain ⟨t115, h116, h⟩ := h
            refine DE.main 5 (by kernel_rfl) ?_
            refine One.r 5 (v := (Value.agg #[(Value.int .u32 t113), (Value.int .i64 t115)])) rfl (Wn.no rfl) rfl (R.ldA ag30 sz30 rfl rfl (Cs.cons h114 (Cs.cons h116 Cs.nil))) (.inl rfl) ?_
            refine DE.main 6 (by kernel_rfl) ?_
            refine One.c 6 rfl (Wn.no rfl) rfl (R.call bd27 (Ls.cons rfl (Ls.cons rfl (Ls.cons rfl Ls.nil))) rfl) (Calls.mono h ?_)
            rintro _ w118 ⟨r117, rfl, h⟩
            refine ⟨_, rfl, ⟨aftT (by kernel_rfl), trivial⟩, ?_⟩
            refine DE.done (by kernel_rfl) ?_
            exact ⟨h, f50, f51, f52⟩
        · rintro e119 w120 ⟨h, f121, f122, f123⟩
          subst hJ91
          refine WE.seq ?_
          obtain ⟨J124, hJ124, h⟩ := M.join_use h
          refine WE.regJ (fun e w => ∃ (x125 : Bool) (x126 : Int), J124 x125 x126 w ∧ e 4 = (Value.bool x125) ∧ e 5 = (Value.int .i64 x126)) ?_ ?_
          · clear hJ124
            refine LE.p (v := (Value.bool t29)) (Wn.no rfl) rfl (R.move f123) ?_
            refine LE.p (v := (Value.bool (!t29))) (Wn.no rfl) rfl (R.not rfl) ?_
            refine LE.p (v := (Value.bool (!t29))) (Wn.no rfl) rfl (R.move rfl) ?_
            rcases M.ite_use h with ⟨hb127, h⟩ | ⟨hb127, h⟩
            · refine LE.u (Un.no 2 68 false rfl rfl rfl (congrArg Value.bool hb127)) ?_
              refine LE.u (Un.no 2 68 false rfl rfl rfl (congrArg Value.bool hb127)) ?_
              refine LE.u (Un.no 2 68 false rfl rfl rfl (congrArg Value.bool hb127)) ?_
              refine LE.u (Un.no 2 68 false rfl rfl rfl (congrArg Value.bool hb127)) ?_
              refine LE.p (v := (Value.bool true)) (Wn.no rfl) rfl (R.pickT (congrArg Value.bool hb127) rfl) ?_
              refine LE.p (v := (Value.bool true)) (Wn.no rfl) rfl (R.assign rfl) ?_
              refine LE.p (v := (Value.int .i64 (0 : Int))) (Wn.no rfl) rfl (R.assign rfl) ?_
              refine LE.nil ?_
              exact ⟨_, _, h, rfl, rfl⟩
            · obtain ⟨t128, t129, t130, t131, t132, t133, h134, h⟩ := h
              refine LE.r (v := (Value.agg #[(Value.int .u32 t128), (Value.int .i64 t129), (Value.bool t130), (Value.int .i64 t131), (Value.int .u32 t132), (Value.float .f64 t133)])) (Wn.yes 2 68 false rfl rfl rfl (congrArg Value.bool hb127)) rfl (R.ldA ag33 sz33 f122 rfl h134) ?_
              obtain ⟨t135, t136, t137, t138, t139, t140, h141, h⟩ := h
              refine LE.r (v := (Value.agg #[(Value.int .u32 t135), (Value.int .i64 t136), (Value.bool t137), (Value.int .i64 t138), (Value.int .u32 t139), (Value.float .f64 t140)])) (Wn.yes 2 68 false rfl rfl rfl (congrArg Value.bool hb127)) rfl (R.ldA ag33 sz33 f121 rfl h141) ?_
              refine LE.c (Wn.yes 2 68 false rfl rfl rfl (congrArg Value.bool hb127)) rfl (R.call bd29 (Ls.cons rfl (Ls.cons rfl Ls.nil)) rfl) (Calls.mono h ?_)
              rintro _ w143 ⟨r142, rfl, h⟩
              refine ⟨_, rfl, ?_⟩
              refine LE.p (v := (Value.bool (!r142))) (Wn.yes 2 68 false rfl rfl rfl (congrArg Value.bool hb127)) rfl (R.not rfl) ?_
              refine LE.p (v := (Value.bool (!r142))) (Wn.no rfl) rfl (R.pickF (congrArg Value.bool hb127) rfl) ?_
              refine LE.p (v := (Value.bool (!r142))) (Wn.no rfl) rfl (R.assign rfl) ?_
              refine LE.p (v := (Value.int .i64 (0 : Int))) (Wn.no rfl) rfl (R.assign rfl) ?_
              refine LE.nil ?_
              exact ⟨_, _, h, rfl, rfl⟩
          · rintro e144 w145 ⟨x125, x126, h, f146, f147⟩
            subst hJ124
            refine WE.ret ?_
            exact ⟨_, (Res.tmp f146 (Res.tmp f147 Res.nil)), _, _, rfl, h⟩
end Go.Proofs.Ytnkpjlojijppiaa
